/-
  The contract of val.Compare. No conditions.
  Numbers of values that lie in memory. No conditions.
  Compare answers nought just for the same value, plainly. No conditions.
  Plain law: what a text means hangs on its solid tokens alone; blanks, lines and notes between two tokens mean nothing. No conditions.
  The contract of typecasekeep.same; what Mean says is said once. No conditions.
  The walk of typecasekeep.MeanBlank. Condition: the library's tables lie in the world.
  What the row of MeanBlank lists: the library's tables, an error in strconv.ErrSyntax; a variable of the library's that holds some integer. No conditions.
-/
import Derived.Test.YtldhmfkojaekfaaGreatDoorRows
import Derived.Lib.LaidTab
import Derived.Lib.LaidU8
import Derived.PinnedBridge
import Derived.ProofKit
import Derived.LaidLaws
import Derived.HandedShaped
import Derived.Test.YtldhmfkojaekfaaGreatDoorMeanBlankAllPartB
set_option linter.unusedVariables false
set_option linter.unusedSimpArgs false
namespace Go.Proofs.YtldhmfkojaekfaaGreatDoor
open Go.RowKit Gx
set_option maxRecDepth 100000
def cmpEn (f : V → V → Int) (x y : ByteArray × V) : Int := orL [sgnB x.1 y.1, f x.2 y.2]
def cmpD : Nat → V → V → Int
  | 0, _, _ => 0
  | n + 1, v, u => orL [sgn v.k u.k, sgn v.n u.n, sgn (fbits v.f) (fbits u.f), sgnB v.s u.s, cmpL (cmpD n) v.l u.l, cmpL (cmpEn (cmpD n)) v.e u.e]

/-- two boxes of entries -/
structure TwoE (w : World) (x y : ByteArray) (q p : Loc) (W : World) : Prop where
  a : SevAt W w.heap.size x q
  b : SevAt W (w.heap.size + 1) y p
  g : Below w.heap.size w W
  s : w.heap.size + 2 ≤ W.heap.size
theorem TwoE.start (x y : ByteArray) (q p : Loc) (w : World) : TwoE w x y q p ((w.alloc (.cells #[.string x, .int .i64 q.v.k, .int .i64 q.v.n, .int .u64 q.v.f, .string q.v.s, .slice q.ad q.v.l.length q.cap, .slice q.bd q.v.e.length q.dap] 44)).alloc
    (.cells #[.string y, .int .i64 p.v.k, .int .i64 p.v.n, .int .u64 p.v.f, .string p.v.s, .slice p.ad p.v.l.length p.cap, .slice p.bd p.v.e.length p.dap] 44)) := by
  refine ⟨?_, ?_, ((Below.refl _ w).alloc (Nat.le_refl _) _).alloc (by simp) _, by simp⟩
  · refine SevAt.box (ty := 44) ?_
    rw [Below.heap_alloc _ _ _ (by simp)]
    exact heap_alloc_new w _
  · refine SevAt.box (ty := 44) ?_
    have := heap_alloc_new (w.alloc (.cells #[.string x, .int .i64 q.v.k, .int .i64 q.v.n, .int .u64 q.v.f, .string q.v.s, .slice q.ad q.v.l.length q.cap, .slice q.bd q.v.e.length q.dap] 44)) (.cells #[.string y, .int .i64 p.v.k, .int .i64 p.v.n, .int .u64 p.v.f, .string p.v.s, .slice p.ad p.v.l.length p.cap, .slice p.bd p.v.e.length p.dap] 44)
    rwa [World.size_alloc] at this
theorem TwoE.keep {w : World} {x y : ByteArray} {q p : Loc} {W W' : World} (h : TwoE w x y q p W) (hb : Below W.heap.size W W') : TwoE w x y q p W' := by
  have hs := h.s
  exact ⟨h.a.through (hb.block _ (by omega)), h.b.through (hb.block _ (by omega)), h.g.trans (hb.mono h.g.size), by have := hb.size; omega⟩
theorem ints_at (W : World) (zs : List Int) (ty : TypeId) : ∀ k x, zs[k]? = some x → (W.alloc (.cells (zs.map (Value.int .i64)).toArray ty)).cell? ⟨W.heap.size, k, none⟩ = some (.int .i64 x) := fun k x h => by
  have := World.cell?_alloc_mark W (zs.map (Value.int .i64)).toArray ty (0, 0) k
  rw [this]; simpa using h

/-- what the entries' comparison lays, told one by one -/
def SevTwo (w : World) (a b : Nat) (x y : ByteArray) (q p : Loc) : Prop :=
  w.cell? ⟨a, 0, none⟩ = some (.string x) ∧ w.cell? ⟨a, 1, none⟩ = some (.int .i64 q.v.k) ∧ w.cell? ⟨a, 2, none⟩ = some (.int .i64 q.v.n) ∧ w.cell? ⟨a, 3, none⟩ = some (.int .u64 q.v.f) ∧ w.cell? ⟨a, 4, none⟩ = some (.string q.v.s) ∧ w.cell? ⟨a, 5, none⟩ = some (.slice q.ad q.v.l.length q.cap) ∧ w.cell? ⟨a, 6, none⟩ = some (.slice q.bd q.v.e.length q.dap) ∧ w.cell? ⟨b, 0, none⟩ = some (.string y) ∧ w.cell? ⟨b, 1, none⟩ = some (.int .i64 p.v.k) ∧ w.cell? ⟨b, 2, none⟩ = some (.int .i64 p.v.n) ∧ w.cell? ⟨b, 3, none⟩ = some (.int .u64 p.v.f) ∧ w.cell? ⟨b, 4, none⟩ = some (.string p.v.s) ∧ w.cell? ⟨b, 5, none⟩ = some (.slice p.ad p.v.l.length p.cap) ∧ w.cell? ⟨b, 6, none⟩ = some (.slice p.bd p.v.e.length p.dap)
theorem TwoE.cells {w : World} {x y : ByteArray} {q p : Loc} {W : World} (h : TwoE w x y q p W) : SevTwo W w.heap.size (w.heap.size + 1) x y q p :=
  ⟨h.a.k, h.a.c0, h.a.c1, h.a.c2, h.a.c3, h.a.c4, h.a.c5, h.b.k, h.b.c0, h.b.c1, h.b.c2, h.b.c3, h.b.c4, h.b.c5⟩

set_option maxHeartbeats 8000000 in
theorem cmpEnt_any (x y : ByteArray) (q p : Loc) (r : Int) (w : World) (hq : VAt w (fun _ => True) q) (hp : VAt w (fun _ => True) p)
    (ih : ∀ W, Below w.heap.size w W → Calls Tryz.prog 23 #[.agg #[.int .i64 q.v.k, .int .i64 q.v.n, .int .u64 q.v.f, .string q.v.s, .slice q.ad q.v.l.length q.cap, .slice q.bd q.v.e.length q.dap], .agg #[.int .i64 p.v.k, .int .i64 p.v.n, .int .u64 p.v.f, .string p.v.s, .slice p.ad p.v.l.length p.cap, .slice p.bd p.v.e.length p.dap]] W (IntPost r W)) :
    Calls Tryz.prog 43 #[.agg #[.string x, .int .i64 q.v.k, .int .i64 q.v.n, .int .u64 q.v.f, .string q.v.s, .slice q.ad q.v.l.length q.cap, .slice q.bd q.v.e.length q.dap], .agg #[.string y, .int .i64 p.v.k, .int .i64 p.v.n, .int .u64 p.v.f, .string p.v.s, .slice p.ad p.v.l.length p.cap, .slice p.bd p.v.e.length p.dap]] w (IntPost (orL [sgnB x y, r]) w) := by
  have HT := Lib.hid (TwoE.start x y q p w)
  have IH := Lib.hid ih
  clear hq hp ih
  go_enter Tryz.func43, Tryz.ntmps43
  go_upto_region 1 with fail
  generalize hw2 : World.alloc (World.alloc w _) _ = w2 at HT ⊢
  clear hw2
  have HTd := Lib.hid (HT.out.keep (Gx.drewN_below w2 1 _))
  have hk2 : SevTwo w2.drew w.heap.size (w.heap.size + 1) x y q p := HTd.out.cells
  unfold SevTwo at hk2
  obtain ⟨s1, hs1⟩ : ∃ s1, sgnB x y = s1 := ⟨_, rfl⟩
  have HS1 := Lib.hid hs1
  clear hs1
  have hst : ∀ W, Calls Tryz.prog 40 #[.string x, .string y] W (CmpPost s1 W) := fun W => by have := cmpStr_any x y W; rwa [HS1.out] at this
  have HST := Lib.hid hst
  clear hst
  go_region_held3 (fun w' => w'.cell? ⟨w.heap.size, 0, none⟩ = some (.string x) ∧ w'.cell? ⟨w.heap.size, 1, none⟩ = some (.int .i64 q.v.k) ∧ w'.cell? ⟨w.heap.size, 2, none⟩ = some (.int .i64 q.v.n) ∧ w'.cell? ⟨w.heap.size, 3, none⟩ = some (.int .u64 q.v.f) ∧ w'.cell? ⟨w.heap.size, 4, none⟩ = some (.string q.v.s) ∧ w'.cell? ⟨w.heap.size, 5, none⟩ = some (.slice q.ad q.v.l.length q.cap) ∧ w'.cell? ⟨w.heap.size, 6, none⟩ = some (.slice q.bd q.v.e.length q.dap) ∧ w'.cell? ⟨w.heap.size + 1, 0, none⟩ = some (.string y) ∧ w'.cell? ⟨w.heap.size + 1, 1, none⟩ = some (.int .i64 p.v.k) ∧ w'.cell? ⟨w.heap.size + 1, 2, none⟩ = some (.int .i64 p.v.n) ∧ w'.cell? ⟨w.heap.size + 1, 3, none⟩ = some (.int .u64 p.v.f) ∧ w'.cell? ⟨w.heap.size + 1, 4, none⟩ = some (.string p.v.s) ∧ w'.cell? ⟨w.heap.size + 1, 5, none⟩ = some (.slice p.ad p.v.l.length p.cap) ∧ w'.cell? ⟨w.heap.size + 1, 6, none⟩ = some (.slice p.bd p.v.e.length p.dap)) (first | exact hk2 | exact hk3 | exact hk4 | go_keep)
    (first
      | (go_simp; refine (HST.out _).mono ?_; rintro e w' ⟨rfl, rfl⟩)
      | (go_simp; refine (IH.out _ HTd.out.g).mono ?_; rintro e w3 ⟨rfl, hb3⟩; have hT3 := HTd.out.keep (W' := w3) (hb3); have hk3 := hT3.cells; unfold SevTwo at hk3; have HT3 := Lib.hid hT3; have hT4 := hT3.keep ((Below.refl _ w3).alloc (Nat.le_refl _) (.cells #[.int .i64 s1, .int .i64 r] 3)); have hk4 := hT4.cells; unfold SevTwo at hk4; have HT4 := Lib.hid hT4; clear hb3 hT3 hT4)
      | (go_simp; refine (or_any _ 2 [s1, r] _ (ints_at w3 [s1, r] 3) (by simp)).mono ?_; rintro e w' ⟨rfl, rfl⟩))
  go_wp2_with fail
  try go_ret
  exact ⟨by rw [HS1.out]; rfl, HT4.out.g⟩

def SixTwo (w : World) (a b : Nat) (q p : Loc) : Prop :=
  w.cell? ⟨a, 0, none⟩ = some (.int .i64 q.v.k) ∧ w.cell? ⟨a, 1, none⟩ = some (.int .i64 q.v.n) ∧ w.cell? ⟨a, 2, none⟩ = some (.int .u64 q.v.f) ∧ w.cell? ⟨a, 3, none⟩ = some (.string q.v.s) ∧ w.cell? ⟨a, 4, none⟩ = some (.slice q.ad q.v.l.length q.cap) ∧ w.cell? ⟨a, 5, none⟩ = some (.slice q.bd q.v.e.length q.dap) ∧ w.cell? ⟨b, 0, none⟩ = some (.int .i64 p.v.k) ∧ w.cell? ⟨b, 1, none⟩ = some (.int .i64 p.v.n) ∧ w.cell? ⟨b, 2, none⟩ = some (.int .u64 p.v.f) ∧ w.cell? ⟨b, 3, none⟩ = some (.string p.v.s) ∧ w.cell? ⟨b, 4, none⟩ = some (.slice p.ad p.v.l.length p.cap) ∧ w.cell? ⟨b, 5, none⟩ = some (.slice p.bd p.v.e.length p.dap)
theorem Two.cells {w : World} {q p : Loc} {W : World} (h : Two w q p W) : SixTwo W w.heap.size (w.heap.size + 1) q p :=
  ⟨h.a.c0, h.a.c1, h.a.c2, h.a.c3, h.a.c4, h.a.c5, h.b.c0, h.b.c1, h.b.c2, h.b.c3, h.b.c4, h.b.c5⟩

set_option maxHeartbeats 16000000 in
theorem compare_step (q p : Loc) (w : World) (r5 r6 : Int) (hq : q.v.wf) (hp : p.v.wf)
    (ih5 : ∀ W, Below w.heap.size w W → Calls Tryz.prog 41 #[.slice q.ad q.v.l.length q.cap, .slice p.ad p.v.l.length p.cap, .func (.func 23) #[] #[]] W (IntPost r5 W))
    (ih6 : ∀ W, Below w.heap.size w W → Calls Tryz.prog 42 #[.slice q.bd q.v.e.length q.dap, .slice p.bd p.v.e.length p.dap, .func (.func 43) #[] #[]] W (IntPost r6 W)) :
    Calls Tryz.prog 23 #[.agg #[.int .i64 q.v.k, .int .i64 q.v.n, .int .u64 q.v.f, .string q.v.s, .slice q.ad q.v.l.length q.cap, .slice q.bd q.v.e.length q.dap], .agg #[.int .i64 p.v.k, .int .i64 p.v.n, .int .u64 p.v.f, .string p.v.s, .slice p.ad p.v.l.length p.cap, .slice p.bd p.v.e.length p.dap]] w
      (IntPost (orL [sgn q.v.k p.v.k, sgn q.v.n p.v.n, sgn (fbits q.v.f) (fbits p.v.f), sgnB q.v.s p.v.s, r5, r6]) w) := by
  have HT := Lib.hid (Two.start q p w)
  have IH5 := Lib.hid ih5
  have IH6 := Lib.hid ih6
  obtain ⟨g1, hg1⟩ : ∃ g, fbits q.v.f = g := ⟨_, rfl⟩
  obtain ⟨g2, hg2⟩ : ∃ g, fbits p.v.f = g := ⟨_, rfl⟩
  obtain ⟨s1, hs1⟩ : ∃ s, sgn q.v.k p.v.k = s := ⟨_, rfl⟩
  obtain ⟨s2, hs2⟩ : ∃ s, sgn q.v.n p.v.n = s := ⟨_, rfl⟩
  rw [hg1, hg2, hs1, hs2]
  obtain ⟨s3, hs3⟩ : ∃ s, sgn g1 g2 = s := ⟨_, rfl⟩
  obtain ⟨s4, hs4⟩ : ∃ s, sgnB q.v.s p.v.s = s := ⟨_, rfl⟩
  rw [hs3, hs4]
  obtain ⟨rr, hrr⟩ : ∃ rr, orL [s1, s2, s3, s4, r5, r6] = rr := ⟨_, rfl⟩
  rw [hrr]
  have HRR := Lib.hid hrr
  clear hrr
  have C1 : Hid (∀ W, Calls Tryz.prog 36 #[.int .i64 q.v.k, .int .i64 p.v.k] W (CmpPost s1 W)) := Lib.hid (fun W => by have := cmpInt_any q.v.k p.v.k W; rwa [hs1] at this)
  have C2 : Hid (∀ W, Calls Tryz.prog 37 #[.int .i64 q.v.n, .int .i64 p.v.n] W (CmpPost s2 W)) := Lib.hid (fun W => by have := cmpI64_any q.v.n p.v.n W; rwa [hs2] at this)
  have C3 : Hid (∀ W, Calls Tryz.prog 38 #[.int .u64 g1, .int .u64 g2] W (CmpPost s3 W)) := Lib.hid (fun W => by have := cmpU64_any g1 g2 W; rwa [hs3] at this)
  have C4 : Hid (∀ W, Calls Tryz.prog 40 #[.string q.v.s, .string p.v.s] W (CmpPost s4 W)) := Lib.hid (fun W => by have := cmpStr_any q.v.s p.v.s W; rwa [hs4] at this)
  have R1 : Hid (∀ W, Calls Tryz.prog 39 #[.int .u64 q.v.f] W (RankPost g1 W)) := Lib.hid (fun W => by have := rank_any q.v.f W hq.f0 hq.f1; rwa [hg1] at this)
  have R2 : Hid (∀ W, Calls Tryz.prog 39 #[.int .u64 p.v.f] W (RankPost g2 W)) := Lib.hid (fun W => by have := rank_any p.v.f W hp.f0 hp.f1; rwa [hg2] at this)
  clear hg1 hg2 hs1 hs2 hs3 hs4 hq hp ih5 ih6
  go_enter Tryz.func23, Tryz.ntmps23
  go_upto_region 1 with fail
  generalize hw2 : World.alloc (World.alloc w _) _ = w2 at HT ⊢
  clear hw2
  have HTd := Lib.hid (HT.out.keep (Gx.drewN_below w2 1 _))
  have hk2 : SixTwo w2.drew w.heap.size (w.heap.size + 1) q p := HTd.out.cells
  unfold SixTwo at hk2
  go_region_held3 (fun w' => w'.cell? ⟨w.heap.size, 0, none⟩ = some (.int .i64 q.v.k) ∧ w'.cell? ⟨w.heap.size, 1, none⟩ = some (.int .i64 q.v.n) ∧ w'.cell? ⟨w.heap.size, 2, none⟩ = some (.int .u64 q.v.f) ∧ w'.cell? ⟨w.heap.size, 3, none⟩ = some (.string q.v.s) ∧ w'.cell? ⟨w.heap.size, 4, none⟩ = some (.slice q.ad q.v.l.length q.cap) ∧ w'.cell? ⟨w.heap.size, 5, none⟩ = some (.slice q.bd q.v.e.length q.dap) ∧ w'.cell? ⟨w.heap.size + 1, 0, none⟩ = some (.int .i64 p.v.k) ∧ w'.cell? ⟨w.heap.size + 1, 1, none⟩ = some (.int .i64 p.v.n) ∧ w'.cell? ⟨w.heap.size + 1, 2, none⟩ = some (.int .u64 p.v.f) ∧ w'.cell? ⟨w.heap.size + 1, 3, none⟩ = some (.string p.v.s) ∧ w'.cell? ⟨w.heap.size + 1, 4, none⟩ = some (.slice p.ad p.v.l.length p.cap) ∧ w'.cell? ⟨w.heap.size + 1, 5, none⟩ = some (.slice p.bd p.v.e.length p.dap)) (first | exact hk2 | exact hk3 | exact hk4 | exact hk5 | go_keep)
    (first
      | (go_simp; (with_reducible refine (C1.out _).mono ?_); rintro e w' ⟨rfl, rfl⟩)
      | (go_simp; (with_reducible refine (C2.out _).mono ?_); rintro e w' ⟨rfl, rfl⟩)
      | (go_simp; (with_reducible refine (R1.out _).mono ?_); rintro e w' ⟨rfl, rfl⟩)
      | (go_simp; (with_reducible refine (R2.out _).mono ?_); rintro e w' ⟨rfl, rfl⟩)
      | (go_simp; (with_reducible refine (C3.out _).mono ?_); rintro e w' ⟨rfl, rfl⟩)
      | (go_simp; (with_reducible refine (C4.out _).mono ?_); rintro e w' ⟨rfl, rfl⟩)
      | (go_simp; refine (IH5.out _ HTd.out.g).mono ?_; rintro e w3 ⟨rfl, hb3⟩; have hT3 := HTd.out.keep (W' := w3) (hb3); have hk3 := hT3.cells; unfold SixTwo at hk3; have HT3 := Lib.hid hT3; clear hb3 hT3)
      | (go_simp; refine (IH6.out _ HT3.out.g).mono ?_; rintro e w4 ⟨rfl, hb4⟩; have hT4 := HT3.out.keep (W' := w4) (hb4); have hk4 := hT4.cells; unfold SixTwo at hk4; have HT4 := Lib.hid hT4; have hT5 := hT4.keep ((Below.refl _ w4).alloc (Nat.le_refl _) (.cells #[.int .i64 s1, .int .i64 s2, .int .i64 s3, .int .i64 s4, .int .i64 r5, .int .i64 r6] 3)); have hk5 := hT5.cells; unfold SixTwo at hk5; have HT5 := Lib.hid hT5; clear hb4 hT4 hT5)
      | (go_simp; refine (or_any _ 6 [s1, s2, s3, s4, r5, r6] _ (ints_at w4 [s1, s2, s3, s4, r5, r6] 3) (by simp)).mono ?_; rintro e w' ⟨rfl, rfl⟩))
  go_wp2_with fail
  try go_ret
  exact ⟨by rw [← HRR.out]; rfl, HT5.out.g⟩
/-- Compare, whatever two -/
theorem Compare_any : ∀ (n : Nat) (q p : Loc) (w : World), SizeOf.sizeOf q.v ≤ n → VAt w (fun _ => True) q → VAt w (fun _ => True) p → Calls Tryz.prog 23 #[q.val, p.val] w (IntPost (cmpD n q.v p.v) w)
  | 0, q, p, w, h, _, _ => by cases q with | mk v _ _ _ _ => cases v; simp at h
  | n + 1, q, p, w, h, hq, hp => by
    have ih := Compare_any n
    refine compare_step q p w _ _ hq.wf hp.wf (fun W hW => ?_) (fun W hW => ?_)
    · exact cmpVals_any (cmpD n) q.v.l p.v.l q.ad p.ad q.cap p.cap W (hq.l.keep hW) (hp.l.keep hW) (fun q' p' w' hm h1 h2 => ih q' p' w' (by have := V.lt_l hm; omega) h1 h2)
    · refine cmpEnts_any (cmpEn (cmpD n)) q.v.e p.v.e q.bd p.bd q.dap p.dap W (hq.e.keep hW) (hp.e.keep hW) (fun x y q' p' w' hm e1 e2 h1 h2 => ?_)
      have hlt := V.lt_e hm
      have := cmpEnt_any x.1 y.1 q' p' (cmpD n q'.v p'.v) w' h1 h2 (fun W' hW' => ih q' p' W' (by rw [e1]; omega) (h1.keep hW') (h2.keep hW'))
      rw [e1, e2] at this ⊢
      exact this
end Go.Proofs.YtldhmfkojaekfaaGreatDoor
namespace Go.Proofs.YtldhmfkojaekfaaGreatDoor
open Go.RowKit Gx
/-- whether a value's own numbers are such, all through -/
inductive WfAll : V → Prop
  | mk (v : V) (h : v.wf) (hl : ∀ x ∈ v.l, WfAll x) (he : ∀ x ∈ v.e, WfAll x.2) : WfAll v
theorem WfAll.own {v : V} (h : WfAll v) : v.wf := by cases h; assumption
theorem WfAll.l {v : V} (h : WfAll v) : ∀ x ∈ v.l, WfAll x := by cases h; assumption
theorem WfAll.e {v : V} (h : WfAll v) : ∀ x ∈ v.e, WfAll x.2 := by cases h; assumption
theorem RowAt.wfAll {w : World} {B : Nat → Prop} {t : Bool} {xs : List (ByteArray × V)} {v : Value} (h : RowAt w B t xs v) : ∀ x ∈ xs, WfAll x.2 := by
  induction h with
  | nil => intro x hx; cases hx
  | row t xs blk off cap sl se hne hn hB hlt hk hc hl he ihl ihe =>
    intro x hx
    obtain ⟨i, hi, rfl⟩ := List.getElem_of_mem hx
    have hi' : xs[i]? = some xs[i] := List.getElem?_eq_getElem hi
    refine .mk _ (hc i _ hi').1 (fun y hy => ?_) (fun y hy => ihe i _ hi' y hy)
    exact ihl i _ hi' (⟨#[]⟩, y) (by simp [lp]; exact hy)
theorem VAt.wfAll {w : World} {B : Nat → Prop} {q : Loc} (h : VAt w B q) : WfAll q.v :=
  .mk _ h.wf (fun x hx => h.l.wfAll (⟨#[]⟩, x) (by simp [lp]; exact hx)) (fun x hx => h.e.wfAll x hx)
end Go.Proofs.YtldhmfkojaekfaaGreatDoor
namespace Go.Proofs.YtldhmfkojaekfaaGreatDoor
open Go.RowKit Gx
theorem sgn_zero (x y : Int) : sgn x y = 0 ↔ x = y := by
  unfold sgn
  split
  · simp; omega
  split
  · simp; omega
  · simp; omega
theorem sgnB_zero (a b : ByteArray) : sgnB a b = 0 ↔ a = b := by
  unfold sgnB
  constructor
  · intro h
    by_cases h1 : Op.bytesLess a.toList b.toList = true
    · rw [if_pos h1] at h; cases h
    rw [if_neg h1] at h
    by_cases h2 : (Op.bytesLess a.toList b.toList || a.toList == b.toList) = true
    · have h3 : a.toList = b.toList := by simpa [h1] using h2
      rw [ByteArray.toList_eq, ByteArray.toList_eq] at h3
      exact ByteArray.ext (Array.toList_inj.1 h3)
    · rw [if_neg h2] at h; cases h
  · rintro rfl
    have h1 : ∀ l : List UInt8, Op.bytesLess l l = false := by
      intro l
      induction l with
      | nil => rfl
      | cons a l ih => simp [Op.bytesLess, ih]
    rw [h1]; simp
theorem fbits_inj {a b : Int} (h0 : 0 ≤ a) (h1 : a ≤ 18446744073709551615) (g0 : 0 ≤ b) (g1 : b ≤ 18446744073709551615) (h : fbits a = fbits b) : a = b := by
  unfold fbits at h
  split at h <;> split at h <;> omega
theorem cmpL_zero {α : Type} {f : α → α → Int} : ∀ (l m : List α), (∀ x ∈ l, ∀ y ∈ m, f x y = 0 ↔ x = y) → (cmpL f l m = 0 ↔ l = m)
  | [], [], _ => by simp [cmpL]
  | [], _ :: _, _ => by simp [cmpL]
  | _ :: _, [], _ => by simp [cmpL]
  | x :: l, y :: m, h => by
    have h1 := h x (by simp) y (by simp)
    have h2 := cmpL_zero l m (fun a ha b hb => h a (by simp [ha]) b (by simp [hb]))
    rw [cmpL]
    by_cases hf : f x y = 0
    · rw [if_neg (by simpa using hf), h2, h1.1 hf]; simp
    · rw [if_pos hf]
      exact ⟨fun e => absurd e hf, fun e => absurd (h1.2 (List.cons.inj e).1) hf⟩
theorem orL_zero : ∀ l : List Int, orL l = 0 ↔ ∀ x ∈ l, x = 0
  | [] => by simp [orL]
  | x :: l => by
    rw [orL]
    by_cases h : x = 0
    · rw [if_neg (by simpa using h), orL_zero l]; simp [h]
    · rw [if_pos h]; simp [h]
theorem cmp_zero : ∀ (n : Nat) (v u : V), SizeOf.sizeOf v ≤ n → WfAll v → WfAll u → (cmpD n v u = 0 ↔ v = u)
  | 0, v, u, h, _, _ => by cases v; simp at h
  | n + 1, v, u, h, hv, hu => by
    have wv := hv.own
    have wu := hu.own
    rw [cmpD, orL_zero]
    have hl := cmpL_zero (f := cmpD n) v.l u.l (fun x hx y hy => cmp_zero n x y (by have := V.lt_l hx; omega) (hv.l x hx) (hu.l y hy))
    have he := cmpL_zero (f := cmpEn (cmpD n)) v.e u.e (fun x hx y hy => by
      have h1 := cmp_zero n x.2 y.2 (by have := V.lt_e hx; omega) (hv.e x hx) (hu.e y hy)
      unfold cmpEn
      rw [orL_zero]
      simp only [List.mem_cons, List.not_mem_nil, or_false, forall_eq_or_imp, forall_eq]
      rw [sgnB_zero, h1]
      constructor
      · rintro ⟨a, b⟩; exact Prod.ext a b
      · rintro rfl; exact ⟨rfl, rfl⟩)
    simp only [List.mem_cons, List.not_mem_nil, or_false, forall_eq_or_imp, forall_eq]
    rw [sgn_zero, sgn_zero, sgn_zero, sgnB_zero, hl, he]
    constructor
    · rintro ⟨a, b, c, d, e, f⟩
      exact V.ext' a b (fbits_inj wv.f0 wv.f1 wu.f0 wu.f1 c) d e f
    · rintro rfl; exact ⟨rfl, rfl, rfl, rfl, rfl, rfl⟩
end Go.Proofs.YtldhmfkojaekfaaGreatDoor
namespace Go.Proofs.YtldhmfkojaekfaaGreatDoor
open Go.RowKit Gx
def kbOf (t : Tk) : Kb := (t.1, t.2.2)
/-- the solid tokens of a text, without their places -/
def kbs (l : List UInt8) : List Kb := kbX (treeX l) 0
theorem kbs_sol (l : List UInt8) (o : Nat) : (solO l o).map kbOf = kbs l := by
  unfold solO kbs kbX
  rw [List.map_map]
  rfl
theorem ok_G {l : List UInt8} {v : V} (hl : l.length ≤ 20000) : ((parseS (treeX l)).bad = 0 ∧ meanN (treeX l) 21 (rootN l) = .ok v) ↔ G 20 (kbs l) v [] := by
  constructor
  · rintro ⟨h1, h2⟩
    have h := run_G (treeX_mark l) 20 ⟨0, 0, 0⟩ v (Nat.zero_le _) (parse_bad h1) h2
    have he : kbX (treeX l) (valueS (treeX l) 20 ⟨0, 0, 0⟩).1.i = [] := by
      unfold parseS endS at h1
      split at h1
      · exact (fail_not (by decide) h1).elim
      · rename_i hn
        rcases skip_kb (treeX l) (valueS (treeX l) 20 ⟨0, 0, 0⟩).1 with ⟨-, g⟩ | ⟨g, -⟩
        · exact g
        · exact absurd g hn
    rw [he] at h
    exact h
  · intro h
    have hT : (treeX l).T.length ≤ 20000 := Nat.le_trans (toks_len l) hl
    obtain ⟨h1, h2, h3, h4, h5⟩ := G_run (treeX_mark l) (show (treeX l).T.length + 2 ≤ 30000 by omega) 20 _ v [] ⟨0, 0, 0⟩ h rfl (Nat.zero_le _) rfl
    refine ⟨?_, h5⟩
    unfold parseS endS
    rcases skip_kb (treeX l) (valueS (treeX l) 20 ⟨0, 0, 0⟩).1 with ⟨g, -⟩ | ⟨-, -, g⟩
    · rw [if_neg (by omega)]; exact h1
    · rw [h2] at g; cases g
theorem meanOk_iff {l : List UInt8} {v : V} : MeanOk l v ↔ l.length ≤ 20000 ∧ G 20 (kbs l) v [] ∧ chkV v = 0 := by
  constructor
  · rintro ⟨h1, h2, h3, h4⟩
    exact ⟨h1, (ok_G h1).1 ⟨h2, h3⟩, h4⟩
  · rintro ⟨h1, h2, h3⟩
    have := (ok_G h1).2 h2
    exact ⟨h1, this.1, this.2, h3⟩
/-- a document has no bad tokens -/
def kindOk (t : Kb) : Prop := t.1 = 4 ∨ t.1 = 5 ∨ t.1 = 6
theorem items_kinds {α : Type} {K : List Kb → α → List Kb → Prop} {e : UInt8} (hK : ∀ ts a r, K ts a r → ∀ t ∈ ts, t ∈ r ∨ kindOk t) {ts r : List Kb} {l : List α} (h : Items K e ts l r) : ∀ t ∈ ts, t ∈ r ∨ kindOk t := by
  induction h with
  | nil r =>
    intro t ht
    rcases List.mem_cons.1 ht with rfl | ht
    · exact .inr (.inr (.inr rfl))
    · exact .inl ht
  | last ts a r h =>
    intro t ht
    rcases hK _ _ _ h t ht with ht | ht
    · rcases List.mem_cons.1 ht with rfl | ht
      · exact .inr (.inr (.inr rfl))
      · exact .inl ht
    · exact .inr ht
  | more ts a ts' l r h hl ih =>
    intro t ht
    rcases hK _ _ _ h t ht with ht | ht
    · rcases List.mem_cons.1 ht with rfl | ht
      · exact .inr (.inr (.inr rfl))
      · exact ih t ht
    · exact .inr ht
theorem G_kinds : ∀ (d : Nat) (ts : List Kb) (v : V) (r : List Kb), G d ts v r → ∀ t ∈ ts, t ∈ r ∨ kindOk t
  | 0, ts, v, r, h => h.elim
  | d + 1, ts, v, r, h => by
    rcases h with ⟨u, rfl, h1, -⟩ | ⟨ts', l, rfl, h1, -⟩ | ⟨ts', l, rfl, h1, -⟩
    · intro t ht
      rcases List.mem_cons.1 ht with rfl | ht
      · exact .inr (h1.elim .inl (fun h => .inr (.inl h)))
      · exact .inl ht
    · intro t ht
      rcases List.mem_cons.1 ht with rfl | ht
      · exact .inr (.inr (.inr rfl))
      · exact items_kinds (fun ts a r h => G_kinds d ts a r h) h1 t ht
    · intro t ht
      rcases List.mem_cons.1 ht with rfl | ht
      · exact .inr (.inr (.inr rfl))
      · refine items_kinds (fun ts a r h => ?_) h1 t ht
        obtain ⟨u, c, ts', rfl, g1, g2, g3, g4⟩ := h
        intro t ht
        rcases List.mem_cons.1 ht with rfl | ht
        · exact .inr (g1.elim .inl (fun h => .inr (.inl h)))
        · rcases List.mem_cons.1 ht with rfl | ht
          · exact .inr (.inr (.inr rfl))
          · exact G_kinds d _ _ _ g4 t ht
theorem no_bad {l : List UInt8} {d : Nat} {v : V} (h : G d (kbs l) v []) : ∀ t ∈ toksFrom l 0, t.1 ≠ 7 := by
  intro t ht h7
  have hm : (t.1, (l.drop t.2.1).take (t.2.2 - t.2.1)) ∈ kbs l := by
    unfold kbs kbX
    rw [List.drop_zero]
    exact List.mem_map.2 ⟨t, List.mem_filter.2 ⟨ht, by rw [h7]; decide⟩, rfl⟩
  rcases G_kinds d _ v [] h _ hm with h1 | h1 | h1 | h1
  · cases h1
  · rw [h7] at h1; exact absurd h1 (by decide)
  · rw [h7] at h1; exact absurd h1 (by decide)
  · rw [h7] at h1; exact absurd h1 (by decide)

def blanks5 : List (List UInt8) := [[32], [10], [9, 13], [47, 42, 32, 44, 32, 42, 47], [35, 32, 125, 10]]
theorem x_skip {x : List UInt8} (hx : x ∈ blanks5) (b : List UInt8) (o : Nat) : solO (x ++ b) o = solO b (o + x.length) := by
  unfold blanks5 at hx
  simp only [List.mem_cons, List.not_mem_nil, or_false] at hx
  rcases hx with rfl | rfl | rfl | rfl | rfl
  · exact solO_blank 32 b o (by decide)
  · exact solO_line b o
  · exact solO_blanks [9, 13] b o (by decide)
  · rw [solO_tok o (by decide) (next_app (k := 3) (z := b) (by decide) (by decide) (by decide) ⟨fun h => absurd h (by decide), fun h => absurd h (by decide)⟩)]
    rfl
  · have h := solO_tok (p := [35, 32, 125]) (r := 10 :: b) (k := 3) o (by decide) (next_app (by decide) (by decide) (by decide) (Okz.line _ _ _))
    have e : [35, 32, 125, 10] ++ b = [35, 32, 125] ++ 10 :: b := rfl
    rw [e, h, solO_line]
    rfl
theorem index_none_app (c : UInt8) : ∀ (l y : List UInt8), Lib.index l [c] = -1 → c ∉ y → Lib.index (l ++ y) [c] = -1
  | [], y, _, hy => by
    induction y with
    | nil => rfl
    | cons a y ih =>
      rw [List.nil_append] at ih ⊢
      have h1 : ([c] : List UInt8).isPrefixOf (a :: y) = false := by
        simp only [List.isPrefixOf, Bool.and_true, beq_eq_false_iff_ne]
        intro e; exact hy (by rw [e]; exact List.mem_cons_self)
      rw [index_cons, h1, ih (fun h => hy (List.mem_cons_of_mem _ h))]
      rfl
  | b :: l, y, h, hy => by
    rw [index_cons] at h
    by_cases h1 : ([c] : List UInt8).isPrefixOf (b :: l) = true
    · rw [if_pos h1] at h; cases h
    · rw [if_neg h1] at h
      have h2 : Lib.index l [c] = -1 := by
        by_cases h3 : Lib.index l [c] = -1
        · exact h3
        · have h4 : (Lib.index l [c] == -1) = false := by simpa using h3
          rw [h4] at h
          simp only [Bool.false_eq_true, if_false] at h
          have := Lib.index_ge l [c]
          omega
      have h5 : ([c] : List UInt8).isPrefixOf (b :: (l ++ y)) = false := by
        simp only [List.isPrefixOf, Bool.and_true] at h1 ⊢
        exact Bool.eq_false_iff.2 h1
      rw [List.cons_append, index_cons, h5, index_none_app c l y h2 hy]
      rfl
/-- a note to the line's end goes on -/
theorem note_more {p y : List UInt8} (hp : p ≠ []) (h : nextTok p = (3, p.length)) (hh : p.head? = some 35) (hy : (10 : UInt8) ∉ y) : nextTok (p ++ y) = (3, (p ++ y).length) := by
  cases p with
  | nil => exact absurd rfl hp
  | cons b p =>
    have hb : b = 35 := by simpa using hh
    subst hb
    have e3 : classOf ((35 : UInt8).toNat : Int) = 3 := by decide
    have hn : ∀ q : List UInt8, Lib.index (35 :: q) [10] = -1 → nextTok (35 :: q) = (3, (35 :: q).length) := by
      intro q hq
      unfold nextTok
      simp only [e3]
      rw [if_neg (by omega), if_pos trivial]
      have hl : noteLen (35 :: q) = (35 :: q).length := by
        unfold noteLen
        rw [if_pos (show (35 :: q).head? = some 35 from rfl)]
        unfold Lib.cut
        rw [hq, if_neg (by decide)]
      rw [hl, if_neg (by simp)]
    have hi : Lib.index (35 :: p) [10] = -1 := by
      unfold nextTok at h
      simp only [e3] at h
      rw [if_neg (by omega), if_pos trivial] at h
      split at h
      · simp at h
      · have hl := (Prod.mk.inj h).2
        unfold noteLen at hl
        rw [if_pos (show (35 :: p).head? = some 35 from rfl)] at hl
        exact cut_whole hl (by simp)
    rw [List.cons_append]
    exact hn _ (index_none_app 10 (35 :: p) y hi hy)
/-- blanks, a line or a note between two tokens -/
theorem blank_same {x b : List UInt8} (hx : x ∈ blanks5) (hb : b ≠ []) {a : List UInt8} (h : TokSeq b a) : ∀ o o', (solO (a ++ (x ++ b)) o).map kbOf = (solO (a ++ b) o').map kbOf := by
  have hbase : ∀ o o', (solO (x ++ b) o).map kbOf = (solO b o').map kbOf := fun o o' => by rw [x_skip hx, kbs_sol, kbs_sol]
  have hxn : x ≠ [] := by
    unfold blanks5 at hx
    simp only [List.mem_cons, List.not_mem_nil, or_false] at hx
    rcases hx with rfl | rfl | rfl | rfl | rfl <;> simp
  have hxh : ∀ c, x.head? = some c → classOf (c.toNat : Int) ≠ 4 := by
    unfold blanks5 at hx
    simp only [List.mem_cons, List.not_mem_nil, or_false] at hx
    intro c hc
    rcases hx with rfl | rfl | rfl | rfl | rfl <;> (obtain rfl := Option.some.inj hc; decide)
  induction h with
  | nil => exact hbase
  | cons p a k hp h hk hz ha ih =>
    intro o o'
    have step : ∀ (z : List UInt8) (o : Nat), Okz k p z → (solO (p ++ z) o).map kbOf = (if solidK k = true then [(k, p)] else []) ++ (solO z (o + p.length)).map kbOf := by
      intro z o hz
      rw [solO_tok o hp (next_app h hp hk hz), List.map_append]
      cases solidK k <;> rfl
    by_cases ha0 : a = []
    · subst ha0
      rw [List.append_nil] at *
      rw [List.nil_append] at hz
      rw [step b o' hz]
      by_cases h1 : k = 1
      · subst h1
        have hall : ∀ c ∈ p, classOf (c.toNat : Int) = 1 := by
          cases p with
          | nil => exact absurd rfl hp
          | cons c p =>
            unfold nextTok at h
            simp only [] at h
            by_cases g1 : classOf (c.toNat : Int) = 1 ∨ classOf (c.toNat : Int) = 4
            · rw [if_pos g1] at h
              obtain ⟨g2, g3⟩ := Prod.mk.inj h
              rw [g2] at g3
              rw [List.length_cons] at g3
              have := runLen_len 1 p (by omega)
              intro u hu
              rcases List.mem_cons.1 hu with rfl | hu
              · exact g2
              · exact this u hu
            · rw [if_neg g1] at h
              exfalso
              split at h
              · split at h <;> simp at h
              · split at h
                · split at h <;> simp at h
                · exact g1 (.inl (Prod.mk.inj h).1)
        rw [solO_blanks p _ o hall]
        exact hbase _ _
      · by_cases h3 : k = 3 ∧ p.head? = some 35
        · obtain ⟨rfl, h35⟩ := h3
          have hs3 : solidK 3 = false := by decide
          rw [hs3]
          simp only [Bool.false_eq_true, if_false, List.nil_append]
          obtain ⟨b', rfl⟩ : ∃ b', b = 10 :: b' := by
            cases b with
            | nil => exact absurd rfl hb
            | cons c b => exact ⟨b, by rw [hz.2 h35 rfl c rfl]⟩
          have long : ∀ y : List UInt8, (10 : UInt8) ∉ y → ∀ z o, (solO (p ++ (y ++ 10 :: z)) o).map kbOf = kbs (10 :: z) := by
            intro y hy z o
            have hn := note_more hp h h35 hy
            rw [← List.append_assoc, solO_tok o (by simp [hp]) (next_app hn (by simp [hp]) (by decide) (Okz.line _ _ _)), hs3]
            simp only [Bool.false_eq_true, if_false, List.nil_append]
            exact kbs_sol _ _
          have line : ∀ z, kbs (10 :: z) = kbs z := fun z => by rw [← kbs_sol (10 :: z) 0, solO_line, kbs_sol]
          rw [kbs_sol (10 :: b') (o' + p.length)]
          have hx' := hx
          unfold blanks5 at hx'
          simp only [List.mem_cons, List.not_mem_nil, or_false] at hx'
          rcases hx' with rfl | rfl | rfl | rfl | rfl
          · exact long [32] (by decide) b' o
          · exact (long [] (by decide) (10 :: b') o).trans (line _)
          · exact long [9, 13] (by decide) b' o
          · exact long [47, 42, 32, 44, 32, 42, 47] (by decide) b' o
          · exact (long [35, 32, 125] (by decide) (10 :: b') o).trans (line _)
        · have hzx : Okz k p (x ++ b) := by
            refine ⟨fun hk14 c hc => ?_, fun h35 hk3 => absurd ⟨hk3, h35⟩ h3⟩
            have hk4 : k = 4 := hk14.resolve_left h1
            rw [hk4]
            refine hxh c ?_
            cases x with
            | nil => exact absurd rfl hxn
            | cons u x => exact hc
          rw [step (x ++ b) o hzx]
          congr 1
          exact hbase _ _
    · have hzx : Okz k p (a ++ (x ++ b)) := hz.head (by
        cases a with
        | nil => exact absurd rfl ha0
        | cons c a => rfl)
      rw [List.append_assoc, List.append_assoc, step _ o hzx, step _ o' hz]
      congr 1
      exact ih _ _
/-- THE LAW: what is put between two tokens means nothing -/
theorem blank_mean {l x : List UInt8} {v : V} {t : Tok} (h : MeanOk l v) (ht : t ∈ toksFrom l 0) (hx : x ∈ blanks5) (hl : l.length ≤ 19980) : MeanOk (l.take t.2.1 ++ (x ++ l.drop t.2.1)) v := by
  obtain ⟨h1, h2, h3⟩ := meanOk_iff.1 h
  obtain ⟨i, hi, rfl⟩ := List.getElem_of_mem ht
  have hsp : toksFrom l 0 = (toksFrom l 0).take i ++ (toksFrom l 0)[i] :: (toksFrom l 0).drop (i + 1) := by
    rw [← List.drop_eq_getElem_cons hi, List.take_append_drop]
  have hin := toks_in l l.length 0 (by omega) _ ht
  have hseq := tokSeq_at _ l _ _ hsp (fun u hu => no_bad h2 u (List.mem_of_mem_take hu))
  have hb : l.drop ((toksFrom l 0)[i]).2.1 ≠ [] := by
    intro e
    have := congrArg List.length e
    rw [List.length_drop, List.length_nil] at this
    omega
  have hk := blank_same hx hb hseq 0 0
  rw [List.take_append_drop, kbs_sol, kbs_sol] at hk
  have hxl : x.length ≤ 7 := by
    unfold blanks5 at hx
    simp only [List.mem_cons, List.not_mem_nil, or_false] at hx
    rcases hx with rfl | rfl | rfl | rfl | rfl <;> decide
  refine meanOk_iff.2 ⟨?_, by rw [hk]; exact h2, h3⟩
  rw [List.length_append, List.length_append, List.length_take, List.length_drop]
  omega
end Go.Proofs.YtldhmfkojaekfaaGreatDoor
namespace Go.Proofs.YtldhmfkojaekfaaGreatDoor
open Go.RowKit Gx
set_option maxRecDepth 100000
set_option maxHeartbeats 1000000 in
theorem sameM_any (q p : Loc) (w : World) (hq : VAt w (fun _ => True) q) (hp : VAt w (fun _ => True) p) (s : Bool) (hs : s = true ↔ q.v = p.v) : Calls Tryz.prog 13 #[q.val, p.val] w (BoolPostM s w) := by
  have HT := Lib.hid (Two.start q p w)
  obtain ⟨c, hc⟩ : ∃ c, cmpD (SizeOf.sizeOf q.v) q.v p.v = c := ⟨_, rfl⟩
  have hcz := cmp_zero _ q.v p.v (Nat.le_refl _) hq.wfAll hp.wfAll
  rw [hc] at hcz
  have h : ∀ W, Below w.heap.size w W → Calls Tryz.prog 23 #[q.val, p.val] W (IntPost c W) := fun W hW => by
    rw [← hc]
    exact Compare_any _ q p W (Nat.le_refl _) (hq.keep hW) (hp.keep hW)
  have hsc : (c == 0) = s := by
    rw [Bool.eq_iff_iff, beq_iff_eq, hcz, hs]
  subst hsc
  unfold Loc.val at h ⊢
  have H := Lib.hid h
  clear h hs hcz hc hq hp
  go_enter Tryz.func13, Tryz.ntmps13
  go_upto_region 1 with fail
  generalize hw2 : World.alloc (World.alloc w _) _ = w2 at HT ⊢
  clear hw2
  obtain ⟨a0, a1, a2, a3, a4, a5⟩ := HT.out.a
  obtain ⟨b0, b1, b2, b3, b4, b5⟩ := HT.out.b
  go_wp2_with fail
  (with_reducible refine (H.out _ HT.out.g).mono ?_)
  rintro e w' ⟨rfl, hb⟩
  have HB := Lib.hid (HT.out.g.trans (hb.mono HT.out.g.size))
  clear hb
  go_wp2_with fail
  try go_ret
  exact ⟨rfl, HB.out⟩
theorem ok_not_bad {l : List UInt8} {v : V} {a : Nat} {c : Int} (h : MeanOk l v) (g : MeanBad l a c) : False := by
  obtain ⟨h1, h2, h3, h4⟩ := h
  rcases g with ⟨g, -⟩ | ⟨-, g, -⟩ | ⟨-, -, ⟨f, g, -⟩ | ⟨u, g, g2, -⟩⟩
  · omega
  · exact g h2
  · rw [h3] at g; cases g
  · rw [h3] at g
    rw [← Except.ok.inj g] at g2
    exact g2 h4
theorem ok_same {l : List UInt8} {v u : V} (h : MeanOk l v) (g : MeanOk l u) : v = u := Except.ok.inj (h.2.2.1.symm.trans g.2.2.1)
theorem mean_calm (S : ByteArray) (v : V) (w : World) (hT : MTabs w) (h : MeanOk S.data.toList v) : Calls Tryz.prog 15 #[.string S] w (fun e w' => Below w.heap.size w w' ∧ ∃ p : Loc, p.v = v ∧ VAt w' (fun b => w.heap.size ≤ b) p ∧ e = .returned (.tuple #[p.val, .int .i64 0, .int .i64 0])) := by
  have hm := mean_any S w hT
  unfold MeanPost at hm
  refine hm.mono ?_
  rintro e w' ⟨hb, ⟨q, hq, rfl, hv⟩ | ⟨a, c, hbad, -, -⟩⟩
  · exact ⟨hb, q, ok_same hq h, hv, rfl⟩
  · exact (ok_not_bad h hbad).elim
/-- the box of a value behind a call -/
structure MB (w : World) (v : V) (g : Nat) (y : Loc) (W : World) : Prop where
  v : y.v = v
  box : W.heap[g]? = some (.cells #[.int .i64 y.v.k, .int .i64 y.v.n, .int .u64 y.v.f, .string y.v.s, .slice y.ad y.v.l.length y.cap, .slice y.bd y.v.e.length y.dap] 26)
  at_ : VAt W (fun _ => True) y
  g : Below w.heap.size w W
theorem MB.after {w w5 w6 : World} {v : V} {y : Loc} (h5 : Below w.heap.size w w5) (h6 : Below w5.heap.size w5 w6) (hv : y.v = v) (hy : VAt w6 (fun b => w5.heap.size ≤ b) y) : MB w v w6.heap.size y (w6.alloc (.cells #[.int .i64 y.v.k, .int .i64 y.v.n, .int .u64 y.v.f, .string y.v.s, .slice y.ad y.v.l.length y.cap, .slice y.bd y.v.e.length y.dap] 26)) :=
  ⟨hv, heap_alloc_new w6 _, (hy.weak (fun _ _ _ => trivial)).keep ((Below.refl w6.heap.size w6).alloc (Nat.le_refl _) _), (h5.trans (h6.mono h5.size)).alloc (Nat.le_trans h5.size h6.size) _⟩
def zero6 : Obj := .cells #[.int .i64 0, .int .i64 0, .int .u64 0, .string ⟨#[]⟩, .slice none 0 0, .slice none 0 0] 26
theorem MB.before {w w5 w6 : World} {v : V} {y : Loc} (h5 : Below w.heap.size w w5) (h6 : Below (w5.alloc zero6).drew.heap.size (w5.alloc zero6).drew w6) (hv : y.v = v) (hy : VAt w6 (fun b => (w5.alloc zero6).drew.heap.size ≤ b) y) :
    MB w v w5.heap.size y ((((((w6.setCell ⟨w5.heap.size, 0, none⟩ (.int .i64 y.v.k)).setCell ⟨w5.heap.size, 1, none⟩ (.int .i64 y.v.n)).setCell ⟨w5.heap.size, 2, none⟩ (.int .u64 y.v.f)).setCell ⟨w5.heap.size, 3, none⟩ (.string y.v.s)).setCell ⟨w5.heap.size, 4, none⟩ (.slice y.ad y.v.l.length y.cap)).setCell ⟨w5.heap.size, 5, none⟩ (.slice y.bd y.v.e.length y.dap)) := by
  have hn := heap_alloc_new w5 zero6
  have hz : (w5.alloc zero6).heap.size = w5.heap.size + 1 := World.size_alloc _ _
  have h7 := (h6.block w5.heap.size (by show w5.heap.size < (w5.alloc zero6).heap.size; omega)).trans hn
  obtain ⟨W9, hW9, hr9, ho, hz9, hbw, hvw⟩ := six_all h7 (.int .i64 y.v.k) (.int .i64 y.v.n) (.int .u64 y.v.f) (.string y.v.s) (.slice y.ad y.v.l.length y.cap) (.slice y.bd y.v.e.length y.dap)
  rw [← hW9]
  have h5a : Below w.heap.size w (w5.alloc zero6).drew := (h5.alloc h5.size zero6).drew
  refine ⟨hv, hr9, (hvw _ _ hy ?_).weak (fun _ _ _ => trivial), hbw _ _ (h5a.trans (h6.mono h5a.size)) h5.size⟩
  show ¬ (w5.alloc zero6).heap.size ≤ w5.heap.size
  omega
end Go.Proofs.YtldhmfkojaekfaaGreatDoor
namespace Go.Proofs.YtldhmfkojaekfaaGreatDoor
open Go.RowKit Gx
set_option maxRecDepth 100000
set_option maxHeartbeats 16000000 in
theorem meanBlank_walk (s : ByteArray) (i which : Int) (w : World) (hT : MTabs w) : Calls Tryz.prog 5 #[.string s, .int .i64 i, .int .i64 which] w (BoolPostM true w) := by
  have HMS := Lib.hid (means_any w hT)
  have HT := Lib.hid hT
  clear hT
  unfold BoolPostM at HMS
  obtain ⟨L, hL⟩ : ∃ L, s.data.toList = L := ⟨_, rfl⟩
  have hsz : s.size = L.length := by rw [← hL]; exact Lib.size_eq s
  have HL := Lib.hid hL
  clear hL
  go_enter Tryz.func5, Tryz.ntmps5
  go_wp2_with fail
  (with_reducible refine HMS.out.mono ?_)
  rintro e w1 ⟨rfl, hb1⟩
  have hc := cut_any s w1 ((HT.out.keep hb1).m)
  unfold CutPost at hc
  rw [HL.out] at hc
  have HC := Lib.hid hc
  have HB1 := Lib.hid hb1
  clear hc hb1 HMS
  go_wp2_with fail
  (with_reducible refine HC.out.mono ?_)
  rintro e w2 (⟨hl, vo, vc, rfl, hown, hb2⟩ | ⟨hl, rfl, rfl⟩)
  rotate_left
  · -- too long
    have hm := mean_any s w1 (HT.out.keep HB1.out)
    unfold MeanPost at hm
    have HM := Lib.hid hm
    have t0 : ((2 : Int) != 0) = true := by decide
    clear hm HC
    go_wp2_with fail
    (with_reducible refine HM.out.mono ?_)
    rintro e w3 ⟨hb3, ⟨q, hq, rfl, hv⟩ | ⟨a, c, hbad, hc, rfl⟩⟩
    · have HB3 := Lib.hid (HB1.out.trans (hb3.mono HB1.out.size))
      unfold Loc.val
      clear hq hv hb3 HM
      go_wp2_with fail
      try go_ret
      exact ⟨rfl, HB3.out.alloc HB3.out.size _⟩
    · have HB3 := Lib.hid (HB1.out.trans (hb3.mono HB1.out.size))
      clear hbad hc hb3 HM
      go_wp2_with fail
      try go_ret
      exact ⟨rfl, HB3.out.alloc HB3.out.size _⟩
  have HB2 := Lib.hid (HB1.out.trans (hb2.mono HB1.out.size))
  have htk := TokAt.of_own (g := 0) hown rfl
  have hm := mean_any s w2 (HT.out.keep HB2.out)
  unfold MeanPost at hm
  have HM := Lib.hid hm
  have HTK := Lib.hid htk
  have hNl : (toks L).length ≤ 20000 := Nat.le_trans (toks_len L) hl
  obtain ⟨N, hN⟩ : ∃ N, (toks L).length = N := ⟨_, rfl⟩
  rw [hN] at hNl ⊢
  have HN := Lib.hid hN
  have t0 : ((0 : Int) != 0) = false := by decide
  clear hm hown htk hb2 HC HB1 hN
  go_wp2_with fail
  (with_reducible refine HM.out.mono ?_)
  rintro e w3 ⟨hb3, ⟨q, hq, rfl, hv⟩ | ⟨a, c, hbad, hc, rfl⟩⟩
  rotate_left
  · have HB3 := Lib.hid (HB2.out.trans (hb3.mono HB2.out.size))
    have t1 : (c != 0) = true := by simpa using hc
    clear hbad hc hb3 HM
    go_wp2_with fail
    try go_ret
    exact ⟨rfl, HB3.out.alloc HB3.out.size _⟩
  have hba := hb3.alloc hb3.size (.cells #[.int .i64 q.v.k, .int .i64 q.v.n, .int .u64 q.v.f, .string q.v.s, .slice q.ad q.v.l.length q.cap, .slice q.bd q.v.e.length q.dap] 26)
  have hbx := heap_alloc_new w3 (.cells #[.int .i64 q.v.k, .int .i64 q.v.n, .int .u64 q.v.f, .string q.v.s, .slice q.ad q.v.l.length q.cap, .slice q.bd q.v.e.length q.dap] 26)
  have HBX := Lib.hid hbx
  have HB3 := Lib.hid (HB2.out.trans (hba.mono HB2.out.size))
  have HTK3 := Lib.hid (HTK.out.keep hba)
  have hv3 := (hv.weak (C := fun _ => True) (fun _ _ _ => trivial)).keep ((Below.refl w3.heap.size w3).alloc (Nat.le_refl _) (.cells #[.int .i64 q.v.k, .int .i64 q.v.n, .int .u64 q.v.f, .string q.v.s, .slice q.ad q.v.l.length q.cap, .slice q.bd q.v.e.length q.dap] 26))
  have HV3 := Lib.hid hv3
  have HQ : Hid (MeanOk L q.v) := Lib.hid (by rw [← HL.out]; exact hq)
  unfold Loc.val
  clear hb3 hba hbx hv hv3 hq HM HTK HB2
  go_upto_region 5 with fail
  generalize hwx : World.alloc w3 _ = w4 at HBX HB3 HTK3 HV3 ⊢
  generalize hqb : w3.heap.size = qb at HBX ⊢
  clear hwx hqb
  have HSZ := Lib.hid hsz
  have HLL := Lib.hid hl
  clear hsz hl
  by_cases hi0 : i < 0
  · have t2 : decide (i < 0) = true := decide_eq_true hi0
    go_wp2_with fail
    try go_ret
    exact ⟨rfl, HB3.out⟩
  have t2 : decide (i < 0) = false := decide_eq_false hi0
  by_cases hiN : (N : Int) ≤ i
  · obtain ⟨k, rfl⟩ : ∃ k : Nat, i = (k : Int) := ⟨i.toNat, by omega⟩
    have t3 : decide ((N : Int) ≤ (k : Int)) = true := decide_eq_true hiN
    have t3' : decide (N ≤ k) = true := decide_eq_true (by omega)
    go_wp2_with fail
    try go_ret
    exact ⟨rfl, HB3.out⟩
  have t3 : decide ((N : Int) ≤ i) = false := decide_eq_false hiN
  by_cases hbig : 19980 < s.size
  · have t4 : decide ((19980 : Int) < (s.size : Int)) = true := decide_eq_true (by omega)
    have t4' : decide (19980 < s.size) = true := decide_eq_true hbig
    go_wp2_with fail
    try go_ret
    exact ⟨rfl, HB3.out⟩
  have t4 : decide ((19980 : Int) < (s.size : Int)) = false := decide_eq_false (by omega)
  have t4' : decide (19980 < s.size) = false := decide_eq_false hbig
  obtain ⟨k, rfl⟩ : ∃ k : Nat, i = (k : Int) := ⟨i.toNat, by omega⟩
  have hkN : k < N := by omega
  have t3' : decide (N ≤ k) = false := decide_eq_false (by omega)
  have hkT : k < (toks L).length := by rw [HN.out]; exact hkN
  obtain ⟨blk, rfl, hbl, htc⟩ := HTK3.out.resolve_left (by rintro e; rw [e] at hkT; simp at hkT)
  obtain ⟨-, g2, -⟩ := tokCells_get (toks L) k hkT
  have hin := toks_in L L.length 0 (by omega) _ (List.getElem_mem hkT)
  have HLAW : Hid (∀ x ∈ blanks5, MeanOk (L.take ((toks L)[k]).2.1 ++ (x ++ L.drop ((toks L)[k]).2.1)) q.v) := Lib.hid (fun x hx => blank_mean HQ.out (List.getElem_mem hkT) hx (by have := HSZ.out; omega))
  obtain ⟨p, hp⟩ : ∃ p, ((toks L)[k]).2.1 = p := ⟨_, rfl⟩
  have hd1 : w4.cell? ⟨blk, k * 3 + 1, none⟩ = some (.int .i64 p) := by rw [← hp]; exact htc _ _ g2
  rw [hp] at HLAW hin
  have hpl : p ≤ s.size := by rw [HSZ.out]; omega
  have r0 : (0 : Int) ≤ (k : Int) := by omega
  have r1 : (k : Int) < (N : Int) := by omega
  have r2 : (k : Int).toNat = k := rfl
  have r3 : decide ((p : Int) < 0) = false := decide_eq_false (by omega)
  have r4 : decide ((s.size : Int) < (p : Int)) = false := decide_eq_false (by omega)
  have r5 : decide (s.size < p) = false := decide_eq_false (by omega)
  have HBL := Lib.hid hbl
  clear hp g2 htc hbl hin hkT hi0 hiN hbig HTK3 HQ
  have HMC : Hid (∀ x : ByteArray, x.data.toList ∈ blanks5 → ∀ W, Below w4.heap.size w4 W → Calls Tryz.prog 15 #[.string (s.extract 0 p ++ x ++ s.extract p s.size)] W (fun e w' => Below W.heap.size W w' ∧ ∃ y : Loc, y.v = q.v ∧ VAt w' (fun b => W.heap.size ≤ b) y ∧ e = .returned (.tuple #[y.val, .int .i64 0, .int .i64 0]))) := Lib.hid (fun x hx W hW => mean_calm _ _ W (HT.out.keep (HB3.out.trans (hW.mono HB3.out.size))) (by
    have hh := HLAW.out _ hx
    rw [← HL.out] at hh
    have e : (s.extract 0 p ++ x ++ s.extract p s.size).data.toList = s.data.toList.take p ++ (x.data.toList ++ s.data.toList.drop p) := by
      simp [ByteArray.data_extract, ByteArray.data_append, List.drop_take]
      exact List.take_of_length_le (by have := Lib.size_eq s; rw [List.length_drop]; omega)
    rw [e]
    exact hh))
  have hsl : s.size ≤ 20000 := by have h1 := HSZ.out; have h2 := HLL.out; omega
  clear HLAW HL HSZ HLL HN
  go_upto_region 11 with fail
  have hn := heap_alloc_new w4 (.cells #[.string ⟨#[32]⟩, .string ⟨#[10]⟩, .string ⟨#[9, 13]⟩, .string ⟨#[47, 42, 32, 44, 32, 42, 47]⟩, .string ⟨#[35, 32, 125, 10]⟩] 9)
  have HB5 := Lib.hid ((Below.refl w4.heap.size w4).alloc (Nat.le_refl _) (.cells #[.string ⟨#[32]⟩, .string ⟨#[10]⟩, .string ⟨#[9, 13]⟩, .string ⟨#[47, 42, 32, 44, 32, 42, 47]⟩, .string ⟨#[35, 32, 125, 10]⟩] 9))
  have d10 := HB5.out.cell (p := ⟨blk, k * 3 + 1, none⟩) HBL.out
  rw [hd1] at d10
  obtain ⟨c, hc⟩ : ∃ c, decide (0 < which ∧ which < 5) = c := ⟨_, rfl⟩
  have HC := Lib.hid hc
  have HNB := Lib.hid hn
  clear hn hc hd1
  generalize hw5 : World.alloc w4 (.cells #[.string ⟨#[32]⟩, .string ⟨#[10]⟩, .string ⟨#[9, 13]⟩, .string ⟨#[47, 42, 32, 44, 32, 42, 47]⟩, .string ⟨#[35, 32, 125, 10]⟩] 9) = w5 at HNB HB5 d10 ⊢
  generalize hmb : w4.heap.size = mb at HNB ⊢
  have HHB := Lib.hid hmb
  clear hw5 hmb
  go_cut [78] (fun v wx => v = .bool c ∧ w5 = wx)
  case first =>
    by_cases h0 : 0 < which
    · have t5 : decide (0 < which) = true := decide_eq_true h0
      by_cases h1 : which < 5
      · have t6 : decide (which < 5) = true := decide_eq_true h1
        obtain rfl : c = true := by rw [← HC.out]; exact decide_eq_true ⟨h0, h1⟩
        clear h0 h1
        go_wp2_with fail
        go_meet
        exact ⟨rfl, rfl⟩
      · have t6 : decide (which < 5) = false := decide_eq_false h1
        obtain rfl : c = false := by rw [← HC.out]; exact decide_eq_false (fun h => h1 h.2)
        clear h0 h1
        go_wp2_with fail
        go_meet
        exact ⟨rfl, rfl⟩
    · have t5 : decide (0 < which) = false := decide_eq_false h0
      obtain rfl : c = false := by rw [← HC.out]; exact decide_eq_false (fun h => h0 h.1)
      clear h0
      go_wp2_with fail
      go_meet
      exact ⟨rfl, rfl⟩
  case rest =>
  obtain ⟨rfl, rfl⟩ := hcut
  go_upto_if 78 with fail
  go_cut [13] (fun v13 wx => w5 = wx ∧ ∃ x : ByteArray, v13 = .string x ∧ Hid (x.data.toList ∈ blanks5))
  case first =>
    cases c with
    | false =>
      go_wp2_with fail
      go_meet
      exact ⟨rfl, _, rfl, Lib.hid (by decide)⟩
    | true =>
      have hw := of_decide_eq_true HC.out
      have r7 : which < 5 := hw.2
      obtain ⟨m, rfl⟩ : ∃ m : Nat, which = (m : Int) := ⟨which.toNat, by omega⟩
      have r6 : (0 : Int) ≤ (m : Int) := by omega
      have r8 : (m : Int).toNat = m := rfl
      have hm : m = 1 ∨ m = 2 ∨ m = 3 ∨ m = 4 := by omega
      obtain ⟨x, hx0, hx⟩ : ∃ x : ByteArray, w5.cell? ⟨mb, m, none⟩ = some (.string x) ∧ x.data.toList ∈ blanks5 := by
        rcases hm with rfl | rfl | rfl | rfl
        · exact ⟨_, by rw [World.cell?, HNB.out]; rfl, by decide⟩
        · exact ⟨_, by rw [World.cell?, HNB.out]; rfl, by decide⟩
        · exact ⟨_, by rw [World.cell?, HNB.out]; rfl, by decide⟩
        · exact ⟨_, by rw [World.cell?, HNB.out]; rfl, by decide⟩
      have HX := Lib.hid hx
      clear hm hw hx
      go_wp2_with fail
      go_meet
      exact ⟨rfl, _, rfl, HX⟩
  case rest =>
  obtain ⟨rfl, x, rfl, hxh⟩ := hcut
  have hx := hxh.out
  clear hxh HNB HHB HC
  go_upto_region 13 with fail
  have RX2 := Lib.hid hx
  have hxz : x.size ≤ 7 := by
    rw [Lib.size_eq]
    revert hx
    generalize x.data.toList = l
    intro hx
    simp only [blanks5, List.mem_cons, List.not_mem_nil, or_false] at hx
    rcases hx with rfl | rfl | rfl | rfl | rfl <;> decide
  have g1 : ¬ 9223372036854775807 < p + x.size := by omega
  have g2 : ¬ 9223372036854775807 < p + x.size + (s.size - p) := by omega
  clear hx
  go_cut [14, 15, 16] (fun v14 v15 v16 wx => ∃ (g : Nat) (y : Loc), v14 = .pointer (some ⟨g, 0, none⟩) ∧ v15 = .int .i64 0 ∧ v16 = .int .i64 0 ∧ Hid (MB w4 q.v g y wx))
  case first =>
    have d11 := ((Below.refl w5.heap.size w5).alloc (Nat.le_refl _) (.cells #[.int .i64 0, .int .i64 0, .int .u64 0, .string ⟨#[]⟩, .slice none 0 0, .slice none 0 0] 26)).cell (p := ⟨blk, k * 3 + 1, none⟩) (Nat.lt_of_lt_of_le HBL.out HB5.out.size)
    rw [d10] at d11
    go_region_law (first | (go_simp; (with_reducible refine (HMC.out _ RX2.out w5.drew HB5.out.drew).mono ?_); rintro e w6 ⟨hb6, y, hyv, hy, rfl⟩; have HB6 := Lib.hid hb6; have HY := Lib.hid hy; have HYV := Lib.hid hyv; unfold Loc.val; clear hb6 hy hyv) | (go_simp; (with_reducible refine (HMC.out _ RX2.out (w5.alloc (.cells #[.int .i64 0, .int .i64 0, .int .u64 0, .string ⟨#[]⟩, .slice none 0 0, .slice none 0 0] 26)).drew (HB5.out.alloc HB5.out.size (.cells #[.int .i64 0, .int .i64 0, .int .u64 0, .string ⟨#[]⟩, .slice none 0 0, .slice none 0 0] 26)).drew).mono ?_); rintro e w6 ⟨hb6, y, hyv, hy, rfl⟩; have h6 := heap_alloc_new w5 (.cells #[.int .i64 0, .int .i64 0, .int .u64 0, .string ⟨#[]⟩, .slice none 0 0, .slice none 0 0] 26); have HB6 := Lib.hid hb6; have h7 := (hb6.block w5.heap.size (Array.getElem?_eq_some_iff.1 h6).1).trans h6; have c0 : w6.cell? ⟨w5.heap.size, 0, none⟩ = some (.int .i64 0) := (by rw [World.cell?, h7]; rfl); have c1 : w6.cell? ⟨w5.heap.size, 1, none⟩ = some (.int .i64 0) := (by rw [World.cell?, h7]; rfl); have c2 : w6.cell? ⟨w5.heap.size, 2, none⟩ = some (.int .u64 0) := (by rw [World.cell?, h7]; rfl); have c3 : w6.cell? ⟨w5.heap.size, 3, none⟩ = some (.string ⟨#[]⟩) := (by rw [World.cell?, h7]; rfl); have c4 : w6.cell? ⟨w5.heap.size, 4, none⟩ = some (.slice none 0 0) := (by rw [World.cell?, h7]; rfl); have c5 : w6.cell? ⟨w5.heap.size, 5, none⟩ = some (.slice none 0 0) := (by rw [World.cell?, h7]; rfl); have f0 : w6.frozen? ⟨w5.heap.size, 0, none⟩ = false := (by rw [World.frozen?, h7]; rfl); have f1 : w6.frozen? ⟨w5.heap.size, 1, none⟩ = false := (by rw [World.frozen?, h7]; rfl); have f2 : w6.frozen? ⟨w5.heap.size, 2, none⟩ = false := (by rw [World.frozen?, h7]; rfl); have f3 : w6.frozen? ⟨w5.heap.size, 3, none⟩ = false := (by rw [World.frozen?, h7]; rfl); have f4 : w6.frozen? ⟨w5.heap.size, 4, none⟩ = false := (by rw [World.frozen?, h7]; rfl); have f5 : w6.frozen? ⟨w5.heap.size, 5, none⟩ = false := (by rw [World.frozen?, h7]; rfl); have HY := Lib.hid hy; have HYV := Lib.hid hyv; unfold Loc.val; clear hb6 hy hyv))
    all_goals
      go_wp2_with fail
      go_meet
      first
        | exact ⟨_, _, rfl, rfl, rfl, Lib.hid (MB.before HB5.out HB6.out HYV.out HY.out)⟩
        | exact ⟨_, _, rfl, rfl, rfl, Lib.hid (MB.after HB5.out.drew HB6.out HYV.out HY.out)⟩
  case rest =>
    obtain ⟨g, y, rfl, rfl, rfl, HMB⟩ := hcut
    have hsm := sameM_any q y wc (HV3.out.keep HMB.out.g) HMB.out.at_ true ⟨fun _ => HMB.out.v.symm, fun _ => rfl⟩
    have HQL := (HMB.out.g.block _ (Array.getElem?_eq_some_iff.1 HBX.out).1).trans HBX.out
    obtain ⟨a0, a1, a2, a3, a4, a5⟩ := six_cells HQL
    obtain ⟨b0, b1, b2, b3, b4, b5⟩ := six_cells HMB.out.box
    have HSM := Lib.hid hsm
    unfold BoolPostM Loc.val at HSM
    clear hsm HQL
    go_wp2_with fail
    (with_reducible refine HSM.out.mono ?_)
    rintro e w9 ⟨rfl, hb9⟩
    have HB9 := Lib.hid (HB3.out.trans ((HMB.out.g.trans (hb9.mono HMB.out.g.size)).mono HB3.out.size))
    clear hb9
    go_wp2_with fail
    try go_ret
    exact ⟨rfl, HB9.out⟩
end Go.Proofs.YtldhmfkojaekfaaGreatDoor
namespace Go.Proofs.YtldhmfkojaekfaaGreatDoor
open Go.RowKit Gx
theorem meanBlank_tabs {W : World} (hL : laidMetH Tryz.prog Rows.meanBlankRow.laid W) (hsh : W.ShapedOpen Tryz.prog) : MTabs W := by
  have h2 := Lib.laidMet.reads hL (.tail _ (.head _))
  have h3 := Lib.laidMet.reads hL (.tail _ (.tail _ (.head _)))
  have h4 := Lib.laidMet.reads hL (.tail _ (.tail _ (.tail _ (.head _))))
  have h6 := Lib.laidMet.reads hL (.tail _ (.tail _ (.tail _ (.tail _ (.tail _ (.head _))))))
  have h7 := Lib.laidMet.reads hL (.tail _ (.tail _ (.tail _ (.tail _ (.tail _ (.tail _ (.head _)))))))
  have e2 : Rows.laid_math_bits_deBruijn64tab = Lib.tabData (H := Unit) .u8 deB64 := by kernel_rfl
  have e3 : Rows.laid_internal_strconv_uint64pow10 = Lib.tabData (H := Unit) .u64 Lib.pow10Tab := by kernel_rfl
  rw [e2] at h2
  rw [e3] at h3
  have t2 := tab_of_reads (g := 7) (t := (Tryz.prog.globals[7]!).type) (by kernel_rfl) (by kernel_rfl) (n := 64) (e := 5) (by kernel_rfl) (by kernel_rfl) (by kernel_rfl) (by kernel_rfl) h2
  have t3 := tab_of_reads (g := 3) (t := (Tryz.prog.globals[3]!).type) (by kernel_rfl) (by kernel_rfl) (n := 20) (e := 22) (by kernel_rfl) (by kernel_rfl) (by kernel_rfl) (by kernel_rfl) h3
  have hU := Go.Proofs.utf8Tabs_of_reads Tryz.lays260 ⟨by kernel_rfl, by kernel_rfl, by kernel_rfl, by kernel_rfl, by kernel_rfl, by kernel_rfl, by kernel_rfl⟩
    (w := W) (Pinned.utf8First_eq ▸ h7) ((show Rows.laid_unicode_utf8_acceptRanges = Lib.acceptData by kernel_rfl) ▸ h4)
  exact ⟨⟨hU, ⟨⟨t2.cell (g := 7) (by kernel_rfl) 1 (by decide), t2.cell (g := 7) (by kernel_rfl) 7 (by decide), t2.cell (g := 7) (by kernel_rfl) 15 (by decide)⟩, t3⟩,
    err_of_reads (t := (Tryz.prog.globals[4]!).type) (by kernel_rfl) (by kernel_rfl) Tryz.underlying79 h6⟩, Tryz.laysM143.s1_3 W hsh⟩
end Go.Proofs.YtldhmfkojaekfaaGreatDoor
