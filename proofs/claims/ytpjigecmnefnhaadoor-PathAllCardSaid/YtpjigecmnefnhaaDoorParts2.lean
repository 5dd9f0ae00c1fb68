/-
  The contracts of val.parts and of the iterator that it hands back. No conditions.
-/
import Derived.RangeFuncNested
import Derived.RangeFuncBound
import Derived.RangeFuncCalls
import Derived.RangeFuncLeaves
import Derived.Shelf.Abstract
import Derived.Shelf.RegionOpen
import Derived.WalkKit
import Derived.OwnWalkIn
import Derived.TacticsInMore
import Derived.LoopNIn
import Derived.LoopIn
import Derived.Outline
import Derived.Test.YtpjigecmnefnhaaDoorVal
import Derived.Test.YtpjigecmnefnhaaDoorProg
namespace Go.Proofs.YtpjigecmnefnhaaDoor
open Go.RowKit Go.Shelf Gx
attribute [local go_sem] Oper.semAt_some
set_option maxRecDepth 100000

/-- blocks below n₀, M left out -/
def Bw (n₀ M : Nat) (b : Nat) : Prop := b < n₀ ∧ b ≠ M
/-- what a round keeps -/
structure KeM (n₀ M : Nat) (W W' : World) : Prop where
  size : W.heap.size ≤ W'.heap.size
  block : ∀ k, Bw n₀ M k → k < W.heap.size → W'.heap[k]? = W.heap[k]?
theorem KeM.refl (n₀ M : Nat) (W : World) : KeM n₀ M W W := ⟨Nat.le_refl _, fun _ _ _ => rfl⟩
theorem KeM.trans {n₀ M : Nat} {A B C : World} (h : KeM n₀ M A B) (k : KeM n₀ M B C) : KeM n₀ M A C :=
  ⟨Nat.le_trans h.size k.size, fun i hi hl => (k.block i hi (Nat.lt_of_lt_of_le hl h.size)).trans (h.block i hi hl)⟩
theorem KeM.grow {n₀ M : Nat} {A B : World} {row : Option Nat} (hg : A.grownBy B row) (hr : ∀ k, row = some k → ¬ Bw n₀ M k) : KeM n₀ M A B :=
  ⟨hg.size, fun i hi hl => hg.block i hl (fun e => hr i e.symm hi)⟩
theorem KeM.alloc (n₀ M : Nat) (A : World) (o : Obj) : KeM n₀ M A (A.alloc o) := ⟨by simp, fun _ _ hl => Below.heap_alloc A o _ hl⟩
theorem KeM.put {n₀ M : Nat} {w : World} (hn : n₀ ≤ w.heap.size) (W : World) (l : Nat) (o o' : Obj) (hl : w.heap.size ≤ l) (h : W.heap[l]? = some o) (_ : o.isCells = false) (_ : o.isWalk = false) : KeM n₀ M W (W.putObj l o') :=
  .grow (grownBy_putObj' W l o') (fun k e hb => by cases e; have := hb.1; omega)
theorem KeM.cell {n₀ M : Nat} {A B : World} (h : KeM n₀ M A B) {b o : Nat} (hb : Bw n₀ M b) (hl : b < A.heap.size) : B.cell? ⟨b, o, none⟩ = A.cell? ⟨b, o, none⟩ := World.cell?_of_block (h.block b hb hl)

/-- values that lie in blocks below n₀, M left out -/
abbrev LocAt (w : World) (n₀ M : Nat) := { x : Loc // VAt w (Bw n₀ M) x }
/-- the parts of a value: those of its list, and those of its entries -/
def V.parts (v : V) : List V := v.l ++ v.e.map Prod.snd

/-- they lie there, one by one -/
def LsAt (w : World) (n₀ M : Nat) (q : Loc) (ls : List (LocAt w n₀ M)) : Prop := ls.map (·.1.v) = q.v.l ∧
  ∀ i x, ls[i]? = some x → ∃ b off, q.ad = some ⟨b, off, none⟩ ∧ Bw n₀ M b ∧ b < w.heap.size ∧ CellsAt w b (off + i * 6) x.1
def EsAt (w : World) (n₀ M : Nat) (q : Loc) (es : List (LocAt w n₀ M)) : Prop := es.map (·.1.v) = q.v.e.map Prod.snd ∧
  ∀ i x, es[i]? = some x → ∃ b off key, q.bd = some ⟨b, off, none⟩ ∧ Bw n₀ M b ∧ b < w.heap.size ∧ w.cell? ⟨b, off + i * 7, none⟩ = some (.string key) ∧ CellsAt w b (off + i * 7 + 1) x.1
theorem locs_of {w : World} {n₀ M : Nat} {q : Loc} (h : VAt w (Bw n₀ M) q) : ∃ ls es, LsAt w n₀ M q ls ∧ EsAt w n₀ M q es := by
  have key : ∀ {α : Type} (l : List α) (p : α → V) (Q : Nat → LocAt w n₀ M → Prop), (∀ i x, l[i]? = some x → ∃ y : LocAt w n₀ M, y.1.v = p x ∧ Q i y) → ∃ ys : List (LocAt w n₀ M), ys.map (·.1.v) = l.map p ∧ ∀ i y, ys[i]? = some y → Q i y := by
    intro α l p Q hq
    induction l generalizing Q with
    | nil => exact ⟨[], rfl, fun i y h => by simp at h⟩
    | cons a l ih =>
      obtain ⟨y, hy, hQ⟩ := hq 0 a rfl
      obtain ⟨ys, h1, h2⟩ := ih (fun i y => Q (i + 1) y) (fun i x h => hq (i + 1) x (by simpa using h))
      refine ⟨y :: ys, by simp [hy, h1], fun i z hz => ?_⟩
      cases i with
      | zero => simp at hz; subst hz; exact hQ
      | succ i => exact h2 i z (by simpa using hz)
  obtain ⟨ls, hl1, hl2⟩ := key q.v.l id (fun i x => ∃ b off, q.ad = some ⟨b, off, none⟩ ∧ Bw n₀ M b ∧ b < w.heap.size ∧ CellsAt w b (off + i * 6) x.1) (fun i x hi => by
    obtain ⟨b, off, e1, e2, e3, e4⟩ := RowAt.elem h.l (by have := (List.getElem?_eq_some_iff.1 hi).1; omega)
    obtain ⟨p, rfl, hv, c⟩ := e4 i x hi
    exact ⟨⟨p, hv⟩, rfl, b, off, e1, e2, e3, c⟩)
  obtain ⟨es, he1, he2⟩ := key q.v.e Prod.snd (fun i x => ∃ b off key, q.bd = some ⟨b, off, none⟩ ∧ Bw n₀ M b ∧ b < w.heap.size ∧ w.cell? ⟨b, off + i * 7, none⟩ = some (.string key) ∧ CellsAt w b (off + i * 7 + 1) x.1) (fun i x hi => by
    obtain ⟨b, off, e1, e2, e3, e4⟩ := RowAt.entry h.e (by have := (List.getElem?_eq_some_iff.1 hi).1; omega)
    obtain ⟨_, ck, p, hp, hv, c⟩ := e4 i x hi
    exact ⟨⟨p, hv⟩, hp, b, off, x.1, e1, e2, e3, ck, c⟩)
  exact ⟨ls, es, ⟨by simpa using hl1, hl2⟩, he1, he2⟩
theorem LsAt.len {w : World} {n₀ M : Nat} {q : Loc} {ls : List (LocAt w n₀ M)} (h : LsAt w n₀ M q ls) : ls.length = q.v.l.length := by have := congrArg List.length h.1; simpa using this
theorem EsAt.len {w : World} {n₀ M : Nat} {q : Loc} {es : List (LocAt w n₀ M)} (h : EsAt w n₀ M q es) : es.length = q.v.e.length := by have := congrArg List.length h.1; simpa using this

def PartsPost (q : Loc) (w : World) (e : Ending) (w' : World) : Prop :=
  e = .returned (.func (.func 26) #[] #[.pointer (some ⟨w.heap.size, 0, none⟩)]) ∧ w' = w.alloc (.cells #[.int .i64 q.v.k, .int .i64 q.v.n, .int .u64 q.v.f, .string q.v.s, .slice q.ad q.v.l.length q.cap, .slice q.bd q.v.e.length q.dap] 26)
set_option maxHeartbeats 1000000 in
theorem parts_any (q : Loc) (w : World) : Calls Tryd.prog 19 #[q.val] w (PartsPost q w) := by
  unfold Loc.val
  go_enter Tryd.func19, Tryd.ntmps19
  go_wp2_with fail
  try go_ret
  exact ⟨rfl, rfl⟩
end Go.Proofs.YtpjigecmnefnhaaDoor
