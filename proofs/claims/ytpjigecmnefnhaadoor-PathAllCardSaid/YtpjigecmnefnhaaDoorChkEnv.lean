/-
  What lies in memory while val.check runs. No conditions.
-/
import Derived.Deep.DeepCutAuto
import Derived.Deep.CutBlock
import Derived.Deep.DeepFit
import Derived.Outline
import Derived.WalkLawsBesides
import Derived.Test.YtpjigecmnefnhaaDoorChkLaw
import Derived.Test.YtpjigecmnefnhaaDoorOwn
import Derived.Test.YtpjigecmnefnhaaDoorPartsIt
namespace Go.Proofs.YtpjigecmnefnhaaDoor
open Go.RowKit Go.Shelf Gx
set_option maxRecDepth 100000

def ChkPost (r : Nat × Nat) (M : Nat) (w : World) (e : Ending) (w' : World) : Prop :=
  e = .returned (.int .i64 r.1) ∧ Boxed w' M 3 (.int .i64 r.2) ∧ w.grownBy w' (some M)

structure CE (w : World) (q : Loc) (a : Int) (M m : Nat) (r : Int) (W : World) : Prop where
  v : W.heap[w.heap.size]? = some (.cells q.cs.toArray 26)
  a : W.heap[w.heap.size + 1]? = some (.cells #[.int .i64 a] 3)
  p : W.heap[w.heap.size + 2]? = some (.cells #[.pointer (some ⟨M, 0, none⟩)] 52)
  r : Boxed W (w.heap.size + 3) 29 (.int .i64 r)
  m : Boxed W M 3 (.int .i64 m)
  g : w.grownBy W (some M)
  hM : M < w.heap.size
theorem grownBy_old {w : World} {W W' : World} {M k : Nat} (h : w.grownBy W (some M)) (g : W.grownBy W' (some k)) (hk : k = M ∨ w.heap.size ≤ k) : w.grownBy W' (some M) :=
  ⟨g.os.trans h.os, g.tape.trans h.tape, g.output.trans h.output, Nat.le_trans h.size g.size, fun i hi hne => by
    refine (g.block i (Nat.lt_of_lt_of_le hi h.size) (fun e => ?_)).trans (h.block i hi hne)
    have : i = k := Option.some.inj e
    rcases hk with rfl | hk
    · exact hne e
    · omega⟩
/-- the tables lie as they lay where a box was written -/
theorem Tabs.but {w w' : World} {M : Nat} {ty : TypeId} {m : Int} (h : Tabs w) (hM : Boxed w M ty (.int .i64 m)) (hg : w.grownBy w' (some M)) : Tabs w' := by
  have hc := hM.cell
  have lt : ∀ {b o : Nat} {v : Value}, w.cell? ⟨b, o, none⟩ = some v → b < w.heap.size := fun {b o v} hc => World.block_lt_of_cell? w ⟨b, o, none⟩ hc
  have h0 := h.1 0 (by decide)
  have h1 := (h.2 0 (by decide)).1
  have n0 : some 0 ≠ some M := fun e => by
    obtain rfl := Option.some.inj e
    rw [h0] at hc; simp at hc
  have n1 : some 1 ≠ some M := fun e => by
    obtain rfl := Option.some.inj e
    rw [show 2 * 0 = 0 from rfl, hc] at h1; simp at h1
  exact ⟨fun c hc => (World.cell?_of_block (hg.block _ (lt h0) n0)).trans (h.1 c hc),
    fun i hi => ⟨(World.cell?_of_block (hg.block _ (lt h1) n1)).trans (h.2 i hi).1, (World.cell?_of_block (hg.block _ (lt h1) n1)).trans (h.2 i hi).2⟩⟩
variable {w : World} {q : Loc} {a : Int} {M m : Nat} {r : Int} {W W' : World}
theorem CE.start (hM : Boxed w M 3 (.int .i64 m)) (q : Loc) (a : Int) : CE w q a M m 0 ((((w.alloc (.cells #[.int .i64 q.v.k, .int .i64 q.v.n, .int .u64 q.v.f, .string q.v.s, .slice q.ad q.v.l.length q.cap, .slice q.bd q.v.e.length q.dap] 26)).alloc
    (.cells #[.int .i64 a] 3)).alloc (.cells #[.pointer (some ⟨M, 0, none⟩)] 52)).alloc (.cells #[.int .i64 0] 29)) := by
  have hl := hM.lt
  refine ⟨?_, ?_, ?_, ?_, ((((hM.alloc _).alloc _).alloc _).alloc _), ?_, hl⟩
  · rw [Below.heap_alloc _ _ _ (by simp <;> omega), Below.heap_alloc _ _ _ (by simp <;> omega), Below.heap_alloc _ _ _ (by simp)]
    exact World.alloc_heap_new w _
  · rw [Below.heap_alloc _ _ _ (by simp <;> omega), Below.heap_alloc _ _ _ (by simp)]
    have := World.alloc_heap_new (w.alloc (.cells #[.int .i64 q.v.k, .int .i64 q.v.n, .int .u64 q.v.f, .string q.v.s, .slice q.ad q.v.l.length q.cap, .slice q.bd q.v.e.length q.dap] 26)) (.cells #[.int .i64 a] 3)
    rwa [World.size_alloc] at this
  · rw [Below.heap_alloc _ _ _ (by simp)]
    have := World.alloc_heap_new ((w.alloc (.cells #[.int .i64 q.v.k, .int .i64 q.v.n, .int .u64 q.v.f, .string q.v.s, .slice q.ad q.v.l.length q.cap, .slice q.bd q.v.e.length q.dap] 26)).alloc (.cells #[.int .i64 a] 3)) (.cells #[.pointer (some ⟨M, 0, none⟩)] 52)
    rwa [World.size_alloc, World.size_alloc] at this
  · have := World.alloc_heap_new (((w.alloc (.cells #[.int .i64 q.v.k, .int .i64 q.v.n, .int .u64 q.v.f, .string q.v.s, .slice q.ad q.v.l.length q.cap, .slice q.bd q.v.e.length q.dap] 26)).alloc (.cells #[.int .i64 a] 3)).alloc (.cells #[.pointer (some ⟨M, 0, none⟩)] 52)) (.cells #[.int .i64 0] 29)
    rwa [World.size_alloc, World.size_alloc, World.size_alloc] at this
  · have hb : Below w.heap.size w ((((w.alloc (.cells #[.int .i64 q.v.k, .int .i64 q.v.n, .int .u64 q.v.f, .string q.v.s, .slice q.ad q.v.l.length q.cap, .slice q.bd q.v.e.length q.dap] 26)).alloc
    (.cells #[.int .i64 a] 3)).alloc (.cells #[.pointer (some ⟨M, 0, none⟩)] 52)).alloc (.cells #[.int .i64 0] 29)) :=
      ((((Below.refl _ w).alloc (Nat.le_refl _) _).alloc (by simp) _).alloc (by simp <;> omega) _).alloc (by simp <;> omega) _
    exact ⟨hb.os, hb.tape, hb.output, hb.size, fun k hk _ => hb.block k hk⟩
theorem CE.size (h : CE w q a M m r W) : w.heap.size + 4 ≤ W.heap.size := by have := h.r.lt; omega
theorem CE.below (h : CE w q a M m r W) (hb : Below W.heap.size W W') : CE w q a M m r W' := by
  have hs := h.size
  have hM := h.hM
  exact ⟨(hb.block _ (by omega)).trans h.v, (hb.block _ (by omega)).trans h.a, (hb.block _ (by omega)).trans h.p, (hb.block _ (by omega)).trans h.r, (hb.block _ (by omega)).trans h.m,
    ⟨hb.os.trans h.g.os, hb.tape.trans h.g.tape, hb.output.trans h.g.output, Nat.le_trans h.g.size hb.size, fun k hk hne => (hb.block k (Nat.lt_of_lt_of_le hk h.g.size)).trans (h.g.block k hk hne)⟩, hM⟩
/-- M is written -/
theorem CE.turn (h : CE w q a M m r W) {m' : Nat} (hg : W.grownBy W' (some M)) (hm : Boxed W' M 3 (.int .i64 m')) : CE w q a M m' r W' := by
  have hs := h.size
  have hM := h.hM
  have hk : ∀ k, w.heap.size ≤ k → k < W.heap.size → W'.heap[k]? = W.heap[k]? := fun k h1 h2 => hg.block k h2 (fun e => by cases e; omega)
  exact ⟨(hk _ (by omega) (by omega)).trans h.v, (hk _ (by omega) (by omega)).trans h.a, (hk _ (by omega) (by omega)).trans h.p, (hk _ (by omega) (by omega)).trans h.r, hm, grownBy_old h.g hg (.inl rfl), hM⟩
/-- the result is written -/
theorem CE.res (h : CE w q a M m r W) (r' : Int) : CE w q a M m r' (W.setCell ⟨w.heap.size + 3, 0, none⟩ (.int .i64 r')) := by
  have hs := h.size
  have hM := h.hM
  have hg := grownBy_setCell' W (w.heap.size + 3) (.int .i64 r')
  have hk : ∀ k, k ≠ w.heap.size + 3 → k < W.heap.size → (W.setCell ⟨w.heap.size + 3, 0, none⟩ (.int .i64 r')).heap[k]? = W.heap[k]? := fun k h1 h2 => hg.block k h2 (fun e => h1 (Option.some.inj e))
  exact ⟨(hk _ (by omega) (by omega)).trans h.v, (hk _ (by omega) (by omega)).trans h.a, (hk _ (by omega) (by omega)).trans h.p, h.r.set _, (hk _ (by omega) (by omega)).trans h.m, grownBy_old h.g hg (.inr (by omega)), hM⟩
/-- many is counted up -/
theorem CE.up (h : CE w q a M m r W) : CE w q a M (m + 1) r (W.setCell ⟨M, 0, none⟩ (.int .i64 ((m : Int) + 1))) := by
  refine h.turn (grownBy_setCell' W M _) ?_
  have := h.m.set (.int .i64 ((m : Int) + 1))
  rwa [show ((m : Int) + 1) = ((m + 1 : Nat) : Int) by omega] at this ⊢
theorem CE.cells (h : CE w q a M m r W) : W.cell? ⟨w.heap.size + 1, 0, none⟩ = some (.int .i64 a) ∧ W.cell? ⟨w.heap.size + 1 + 1, 0, none⟩ = some (.pointer (some ⟨M, 0, none⟩)) ∧ W.cell? ⟨w.heap.size + 1 + 1 + 1, 0, none⟩ = some (.int .i64 r) ∧
    W.cell? ⟨M, 0, none⟩ = some (.int .i64 m) ∧ W.frozen? ⟨M, 0, none⟩ = false ∧ W.frozen? ⟨w.heap.size + 1 + 1 + 1, 0, none⟩ = false ∧ M < W.heap.size ∧ w.heap.size + 1 + 1 + 1 < W.heap.size :=
  ⟨by simp [World.cell?, h.a], by simp [World.cell?, h.p], h.r.cell, h.m.cell, h.m.frozen, h.r.frozen, h.m.lt, h.r.lt⟩
/-- it abides what the loop's own book-keeping does -/
theorem CE.own (h : CE w q a M m r W) {row : Option Nat} (hg : W.grownBy W' row) (hr : ∀ k, row = some k → w.heap.size ≤ k ∧ ∃ o : Obj, W.heap[k]? = some o ∧ o.isCells = false) : CE w q a M m r W' := by
  have hs := h.size
  have hM := h.hM
  have hk : ∀ (k : Nat) (cs : Array Value) (ty : TypeId) (fz : Nat × Nat), W.heap[k]? = some (Obj.cells cs ty fz) → W'.heap[k]? = W.heap[k]? := fun k cs ty fz hc => hg.block k (Array.getElem?_eq_some_iff.1 hc).1 (fun e => by
    obtain ⟨-, o, ho, hc2⟩ := hr k e.symm
    rw [hc] at ho; cases ho; cases hc2)
  refine ⟨(hk _ _ _ _ h.v).trans h.v, (hk _ _ _ _ h.a).trans h.a, (hk _ _ _ _ h.p).trans h.p, (hk _ _ _ _ h.r).trans h.r, (hk _ _ _ _ h.m).trans h.m,
    ⟨hg.os.trans h.g.os, hg.tape.trans h.g.tape, hg.output.trans h.g.output, Nat.le_trans h.g.size hg.size, fun k hk' hne => ?_⟩, hM⟩
  refine (hg.block k (Nat.lt_of_lt_of_le hk' h.g.size) (fun e => ?_)).trans (h.g.block k hk' hne)
  have := (hr k e.symm).1
  omega
theorem CE.vc (h : CE w q a M m r W) : CellsAt W w.heap.size 0 q := CellsAt.box h.v
end Go.Proofs.YtpjigecmnefnhaaDoor
