/-
  The contract of the reader's value: what it is. No conditions.
-/
import Derived.Test.YtmpaaedccodjaaaDoorReadObj
import Derived.Test.YtmpaaedccodjaaaDoorXor
namespace Go.Proofs.YtmpaaedccodjaaaDoor
open Go.RowKit Gx
set_option maxRecDepth 100000

theorem Tryd.info_val : (Tryd.prog.info? 26).map (fun i => (i.zero, i.size, i.bytes)) = some (some (.agg #[.int .i64 0, .int .i64 0, .int .u64 0, .string ⟨#[]⟩, .slice none 0 0, .slice none 0 0]), 6, 88) := by kernel_rfl
theorem Tryd.info_ent : (Tryd.prog.info? 51).map (fun i => (i.zero, i.size, i.bytes)) = some (some (.agg #[.string ⟨#[]⟩, .int .i64 0, .int .i64 0, .int .u64 0, .string ⟨#[]⟩, .slice none 0 0, .slice none 0 0]), 7, 104) := by kernel_rfl
theorem cellsT_one (t : Bool) (p : ByteArray × Loc) : ∀ u ∈ cellsT t p, u.oneCell' = true := by
  intro u hu
  cases t with
  | false =>
    simp only [cellsT, Loc.cs, List.mem_cons, List.not_mem_nil, or_false, if_neg (show ¬ (false = true) by decide)] at hu
    rcases hu with rfl | rfl | rfl | rfl | rfl | rfl <;> rfl
  | true =>
    simp only [cellsT, Loc.cs, List.mem_cons, List.not_mem_nil, or_false, if_true] at hu
    rcases hu with rfl | rfl | rfl | rfl | rfl | rfl | rfl <;> rfl
/-- an element is put behind the others, within a region that draws its order -/
theorem step_acc {t : Bool} {e ti : TypeId} {z : Value} {bytes : Nat} (ht : Tryd.prog.underlying ti = some (.slice e)) (hinfo : (Tryd.prog.info? e).map (fun i => (i.zero, i.size, i.bytes)) = some (some z, st t, bytes)) (hzs : z.cells.size = st t) (hby : bytes ≤ 104)
    {ops : Array Oper} {o : Oper} {ac : Act} {K : Act → World → Prop} {Q : Exit → Act → World → Prop} {F : Prop} {w : World} {vb : Nat} {v : Value} {ps : List (ByteArray × Loc)} (hgd : o.guard = none) (s x : Operand)
    (ho : o.op = .call { callee := .builtin .append, args := #[s, x], argTypes := #[ti, ti] }) (h : Acc w vb t e v ps) (hb : vb + 1 ≤ w.heap.size) (p : ByteArray × Loc) (hp : VAt w (fun b => vb < b ∧ v.ownBlock ≠ some b) p.2) (hk : p.1.size ≤ 140737488351232)
    (W : World) (hW : W = w.alloc (.cells (cellsT t p).toArray e)) (hs : ac.eval s = v) (hx : ac.eval x = .slice (some ⟨w.heap.size, 0, none⟩) 1 1) (n : Nat) (hn : ps.length = n) (hl : n ≤ 1000000000)
    (hK : ∀ ao c w', Acc w' vb t e (.slice ao (n + 1) c) (ps ++ [p]) → w.grownBy w' v.ownBlock → K (ac.put o.dst (.slice ao (n + 1) c)) w') :
    if Region.wanted o (yielded ops ac.tmps) = true then Oper.wp Tryd.prog o ac W K Q else F := by
  subst hW
  subst hn
  obtain ⟨i0, hi, hz0, hz1, hz2⟩ := info_parts hinfo
  have hw : Region.wanted o (yielded ops ac.tmps) = true := by simp [Region.wanted, hgd]
  rw [if_pos hw]
  have hst : 0 < st t := by cases t <;> decide
  obtain ⟨v', w', hr, ho2, hg, hm, hnn⟩ := run_append_moved (P := Tryd.prog) (w.alloc (.cells (cellsT t p).toArray e)) (vb + 1) ti o.type e i0 z (st t) bytes ht hi hz0 hz1 hz2 hzs hst v ps.length (ps.flatMap (cellsT t))
    (h.own.alloc _) ⟨w.heap.size, 0, none⟩ 1 1 (cellsT t p) (by rw [cellsT_len, Nat.one_mul])
    (fun j u hj => by
      rw [Addr.add_lit]
      have := World.cell?_alloc_mark w (cellsT t p).toArray e (0, 0) (0 + j)
      rw [this]; simpa using hj)
    (cellsT_one t p) (Nat.le_trans (Nat.mul_le_mul_left _ hby) (by omega)) (by unfold maxLen; omega) (by simp; omega)
  have hg' := grown_alloc' (.cells (cellsT t p).toArray e) hg
  have hm' : Moved v v' w.heap.size := by
    rcases hm with hm | ⟨g, hm, hgl⟩
    · exact .inl hm
    · exact .inr ⟨g, hm, by simp at hgl; omega⟩
  have hacc := h.push hp hk ho2 hg' hm'
  obtain ⟨ao, c, rfl⟩ := own_form ho2
  unfold Oper.wp execOp
  simp only [ho, resolve, invoke, builtin, Sem.run_bind, Sem.run_pure, Result.andThen_ok, List.map_toArray, List.map_cons, List.map_nil, hs, hx, hr]
  exact hK ao c w' hacc hg'
def ValPost (n₀ R d : Nat) (l : List Int) (bad : Bool) (w : World) (e : Ending) (w' : World) : Prop :=
  ∃ q l' bad', e = .returned (Loc.val q) ∧ VAt w' (fun b => w.heap.size ≤ b) q ∧ RdS n₀ w' R l' bad' ∧ w.grownBy w' (some R) ∧ Told (orBad bad (pval d l)) q.v l' bad' ∧ l'.length ≤ l.length
/-- told in the body's words -/
theorem val_told (d : Nat) (l : List Int) (bad : Bool) (hd : d ≤ 1001) : orBad bad (pval d l) = orBad ((rbyte l bad).2.2 || decide (1000 < 1001 - (d : Int))) (pbody (d - 1) (rbyte l bad).1 (rbyte l bad).2.1) := by
  cases bad with
  | true => cases l <;> rfl
  | false =>
    cases l with
    | nil => rw [pval_nil]; rfl
    | cons c l =>
      cases d with
      | zero => rfl
      | succ d =>
        have : decide (1000 < 1001 - ((d + 1 : Nat) : Int)) = false := decide_eq_false (by omega)
        simp only [this, rbyte, Bool.or_false]
        rw [pval_cons]
        rfl
/-- six cells are written -/
theorem six_store {w : World} {b : Nat} {ty : TypeId} {a0 a1 a2 a3 a4 a5 : Value} (h : w.heap[b]? = some (.cells #[a0, a1, a2, a3, a4, a5] ty)) (j : Nat) (u : Value) : (w.setCell ⟨b, j, none⟩ u).heap[b]? = some (.cells (#[a0, a1, a2, a3, a4, a5].setIfInBounds j u) ty) := by
  simp [World.setCell, Array.getElem?_modify, h]
theorem six_cells {w : World} {b : Nat} {ty : TypeId} {a0 a1 a2 a3 a4 a5 : Value} (h : w.heap[b]? = some (.cells #[a0, a1, a2, a3, a4, a5] ty)) : w.cell? ⟨b, 0, none⟩ = some a0 ∧ w.cell? ⟨b, 1, none⟩ = some a1 ∧ w.cell? ⟨b, 2, none⟩ = some a2 ∧ w.cell? ⟨b, 3, none⟩ = some a3 ∧ w.cell? ⟨b, 4, none⟩ = some a4 ∧ w.cell? ⟨b, 5, none⟩ = some a5 ∧ (∀ j, w.frozen? ⟨b, j, none⟩ = false) :=
  ⟨by simp [World.cell?, h], by simp [World.cell?, h], by simp [World.cell?, h], by simp [World.cell?, h], by simp [World.cell?, h], by simp [World.cell?, h], fun j => by simp [World.frozen?, h]⟩
/-- amid a value: what is left to read; its cells as they stand -/
structure VS (n₀ R vb : Nat) (w : World) (l : List Int) (bad : Bool) (k n f : Int) (s : ByteArray) (sl se : Value) (W : World) : Prop where
  res : W.heap[w.heap.size]? = some (.cells #[.int .i64 0, .int .i64 0, .int .u64 0, .string ⟨#[]⟩, .slice none 0 0, .slice none 0 0] 26)
  box : W.heap[vb]? = some (.cells #[.int .i64 k, .int .i64 n, .int .u64 f, .string s, sl, se] 26)
  rs : RdS n₀ W R l bad
  gr : w.grownBy W (some R)
  lt : w.heap.size < vb
  n0 : n₀ ≤ w.heap.size
namespace VS
variable {n₀ R vb : Nat} {w W W' : World} {l l' : List Int} {bad bad' : Bool} {k n f : Int} {s : ByteArray} {sl se : Value}
theorem rb (h : VS n₀ R vb w l bad k n f s sl se W) : R < w.heap.size := Nat.lt_of_lt_of_le h.rs.lt h.n0
theorem vlt (h : VS n₀ R vb w l bad k n f s sl se W) : vb < W.heap.size := (Array.getElem?_eq_some_iff.1 h.box).1
theorem call (h : VS n₀ R vb w l bad k n f s sl se W) (hr : RdS n₀ W' R l' bad') (hg : W.grownBy W' (some R)) : VS n₀ R vb w l' bad' k n f s sl se W' := by
  have := h.rb
  have := h.lt
  have := h.vlt
  exact ⟨(hg.block _ (by omega) (fun e => by have := Option.some.inj e; omega)).trans h.res, (hg.block _ (by omega) (fun e => by have := Option.some.inj e; omega)).trans h.box, hr, grown_twice h.gr hg, h.lt, h.n0⟩
theorem grownV (h : VS n₀ R vb w l bad k n f s sl se W) (u : Value) (j : Nat) : w.grownBy (W.setCell ⟨vb, j, none⟩ u) (some R) := by
  have hg := grown_cell W vb j u
  refine ⟨hg.os.trans h.gr.os, hg.tape.trans h.gr.tape, hg.output.trans h.gr.output, Nat.le_trans h.gr.size hg.size, fun i hi hne => (hg.block i (Nat.lt_of_lt_of_le hi h.gr.size) (fun e => ?_)).trans (h.gr.block i hi hne)⟩
  have := Option.some.inj e
  have := h.lt
  omega
theorem setAll (h : VS n₀ R vb w l bad k n f s sl se W) (j : Nat) (u : Value) {k' n' f' : Int} {s' : ByteArray} {sl' se' : Value}
    (he : #[Value.int .i64 k, .int .i64 n, .int .u64 f, .string s, sl, se].setIfInBounds j u = #[.int .i64 k', .int .i64 n', .int .u64 f', .string s', sl', se']) : VS n₀ R vb w l bad k' n' f' s' sl' se' (W.setCell ⟨vb, j, none⟩ u) := by
  have h1 := h.lt
  have h2 := h.vlt
  have hg := grown_cell W vb j u
  exact ⟨(hg.block _ (by omega) (fun e => by have := Option.some.inj e; omega)).trans h.res, by rw [six_store h.box j u, he], h.rs.grow hg (fun b e => by have := Option.some.inj e; have := h.n0; omega), h.grownV u j, h.lt, h.n0⟩
theorem setN (h : VS n₀ R vb w l bad k n f s sl se W) (u : Int) : VS n₀ R vb w l bad k u f s sl se (W.setCell ⟨vb, 1, none⟩ (.int .i64 u)) := h.setAll 1 _ rfl
theorem setF (h : VS n₀ R vb w l bad k n f s sl se W) (u : Int) : VS n₀ R vb w l bad k n u s sl se (W.setCell ⟨vb, 2, none⟩ (.int .u64 u)) := h.setAll 2 _ rfl
theorem setS (h : VS n₀ R vb w l bad k n f s sl se W) (u : ByteArray) : VS n₀ R vb w l bad k n f u sl se (W.setCell ⟨vb, 3, none⟩ (.string u)) := h.setAll 3 _ rfl
theorem setL (h : VS n₀ R vb w l bad k n f s sl se W) (u : Value) : VS n₀ R vb w l bad k n f s u se (W.setCell ⟨vb, 4, none⟩ u) := h.setAll 4 _ rfl
theorem setE (h : VS n₀ R vb w l bad k n f s sl se W) (u : Value) : VS n₀ R vb w l bad k n f s sl u (W.setCell ⟨vb, 5, none⟩ u) := h.setAll 5 _ rfl
theorem setBad (h : VS n₀ R vb w l bad k n f s sl se W) (b : Bool) : VS n₀ R vb w l b k n f s sl se (W.setCell ⟨R, 1, none⟩ (.bool b)) := h.call (h.rs.setBad b) (grown_cell W R 1 _)
theorem drew (h : VS n₀ R vb w l bad k n f s sl se W) : VS n₀ R vb w l bad k n f s sl se W.drew := h.call (h.rs.keepB (Gx.drewN_below W 1 _) h.rs.n0) ⟨rfl, rfl, rfl, Nat.le_refl _, fun _ _ _ => rfl⟩
theorem cells (h : VS n₀ R vb w l bad k n f s sl se W) : W.cell? ⟨vb, 0, none⟩ = some (.int .i64 k) ∧ W.cell? ⟨vb, 1, none⟩ = some (.int .i64 n) ∧ W.cell? ⟨vb, 2, none⟩ = some (.int .u64 f) ∧ W.cell? ⟨vb, 3, none⟩ = some (.string s) ∧ W.cell? ⟨vb, 4, none⟩ = some sl ∧ W.cell? ⟨vb, 5, none⟩ = some se ∧ (∀ j, W.frozen? ⟨vb, j, none⟩ = false) := six_cells h.box
end VS
/-- the result's block is written; nothing else -/
structure Fin (n₀ R vb : Nat) (w : World) (l : List Int) (bad : Bool) (q : Loc) (a : Array Value) (W : World) : Prop where
  res : W.heap[w.heap.size]? = some (.cells a 26)
  rs : RdS n₀ W R l bad
  gr : w.grownBy W (some R)
  v : VAt W (vb < ·) q
  lt : w.heap.size < vb
  n0 : n₀ ≤ w.heap.size
theorem Fin.set {n₀ R vb : Nat} {w W : World} {l : List Int} {bad : Bool} {q : Loc} {a : Array Value} (h : Fin n₀ R vb w l bad q a W) (j : Nat) (u : Value) : Fin n₀ R vb w l bad q (a.setIfInBounds j u) (W.setCell ⟨w.heap.size, j, none⟩ u) := by
  have hg := grown_cell W w.heap.size j u
  have hz : w.heap.size < W.heap.size := (Array.getElem?_eq_some_iff.1 h.res).1
  refine ⟨by simp [World.setCell, Array.getElem?_modify, h.res], h.rs.grow hg (fun b e => by have := Option.some.inj e; have := h.n0; omega), ⟨hg.os.trans h.gr.os, hg.tape.trans h.gr.tape, hg.output.trans h.gr.output, Nat.le_trans h.gr.size hg.size, fun i hi hne => (hg.block i (Nat.lt_of_lt_of_le hi h.gr.size) (fun e => ?_)).trans (h.gr.block i hi hne)⟩, h.v.grow hg (fun b e hb => by have := Option.some.inj e; have := h.lt; omega), h.lt, h.n0⟩
  have := Option.some.inj e
  omega
theorem VS.fin {n₀ R vb d : Nat} {w W : World} {l l0 : List Int} {bad bad0 : Bool} {k n f : Int} {s : ByteArray} {L : List V} {E : List (ByteArray × V)} {ad bd : Option Addr} {la le cap dap : Nat} (h : VS n₀ R vb w l bad k n f s (.slice ad la cap) (.slice bd le dap) W)
    (hv : VAt W (vb < ·) ⟨.mk k n f s L E, ad, cap, bd, dap⟩) (h1 : L.length = la) (h2 : E.length = le) (ht : Told (orBad bad0 (pval d l0)) (.mk k n f s L E) l bad) (hl : l.length ≤ l0.length) :
    ∃ W9, W9 = (((((W.setCell ⟨w.heap.size, 0, none⟩ (.int .i64 k)).setCell ⟨w.heap.size, 1, none⟩ (.int .i64 n)).setCell ⟨w.heap.size, 2, none⟩ (.int .u64 f)).setCell ⟨w.heap.size, 3, none⟩ (.string s)).setCell ⟨w.heap.size, 4, none⟩ (.slice ad la cap)).setCell ⟨w.heap.size, 5, none⟩ (.slice bd le dap) ∧
      (W9.cell? ⟨w.heap.size, 0, none⟩ = some (.int .i64 k) ∧ W9.cell? ⟨w.heap.size, 1, none⟩ = some (.int .i64 n) ∧ W9.cell? ⟨w.heap.size, 2, none⟩ = some (.int .u64 f) ∧ W9.cell? ⟨w.heap.size, 3, none⟩ = some (.string s) ∧ W9.cell? ⟨w.heap.size, 4, none⟩ = some (.slice ad la cap) ∧ W9.cell? ⟨w.heap.size, 5, none⟩ = some (.slice bd le dap)) ∧
      ValPost n₀ R d l0 bad0 w (.returned (.agg #[.int .i64 k, .int .i64 n, .int .u64 f, .string s, .slice ad la cap, .slice bd le dap])) W9 := by
  subst h1
  subst h2
  have F0 : Fin n₀ R vb w l bad ⟨.mk k n f s L E, ad, cap, bd, dap⟩ _ W := ⟨h.res, h.rs, h.gr, hv, h.lt, h.n0⟩
  have F := (((((F0.set 0 (.int .i64 k)).set 1 (.int .i64 n)).set 2 (.int .u64 f)).set 3 (.string s)).set 4 (.slice ad L.length cap)).set 5 (.slice bd E.length dap)
  have hr : _ = some (Obj.cells #[.int .i64 k, .int .i64 n, .int .u64 f, .string s, .slice ad L.length cap, .slice bd E.length dap] 26) := F.res
  obtain ⟨c0, c1, c2, c3, c4, c5, -⟩ := six_cells hr
  exact ⟨_, rfl, ⟨c0, c1, c2, c3, c4, c5⟩, ⟨⟨.mk k n f s L E, ad, cap, bd, dap⟩, l, bad, rfl, F.v.weak (fun b hb _ => by have := h.lt; omega), F.rs, F.gr, ht, hl⟩⟩
theorem told_some {α : Type} (bd : Bool) (x : α) (l : List Int) : Told (orBad bd (some (x, l))) x l bd := by
  cases bd
  · exact ⟨rfl, rfl, rfl⟩
  · rfl
theorem told_none {α : Type} (bd : Bool) (x : α) (l : List Int) : Told (orBad bd (none : Option (α × List Int))) x l true := by
  cases bd <;> rfl
/-- what is told of a part is told of the whole that it makes -/
theorem told_map {α β : Type} {bd bad' : Bool} {o : Option (α × List Int)} {x : α} {l' : List Int} (h : Told (orBad bd o) x l' bad') (g : α → β) : Told (orBad bd (o.map fun y => (g y.1, y.2))) (g x) l' bad' := by
  cases bd with
  | true => exact h
  | false =>
    cases o with
    | none => exact h
    | some y => obtain ⟨h1, h2, h3⟩ := h; exact ⟨congrArg g h1, h2, h3⟩
/-- a value without parts -/
theorem VAt.bare {W : World} {B : Nat → Prop} {k n f : Int} {s : ByteArray} (h0 : -9223372036854775808 ≤ k) (h1 : k ≤ 9223372036854775807) (n0 : -9223372036854775808 ≤ n) (n1 : n ≤ 9223372036854775807) (f0 : 0 ≤ f) (f1 : f ≤ 18446744073709551615) (hs : s.size ≤ 140737488351232) :
    VAt W B ⟨.mk k n f s [] [], none, 0, none, 0⟩ := ⟨⟨h0, h1, n0, n1, f0, f1, hs⟩, .nil _ _ _, .nil _ _ _⟩
theorem VS.own {n₀ R vb : Nat} {w W W' : World} {l : List Int} {bad : Bool} {k n f : Int} {s : ByteArray} {sl se : Value} {row : Option Nat} (h : VS n₀ R vb w l bad k n f s sl se W) (hg : W.grownBy W' row) (hr : ∀ b, row = some b → vb < b) : VS n₀ R vb w l bad k n f s sl se W' := by
  have h1 := h.lt
  have h2 := h.vlt
  have h3 := h.n0
  exact ⟨(hg.block _ (by omega) (fun e => by have := hr _ e.symm; omega)).trans h.res, (hg.block _ h2 (fun e => by have := hr _ e.symm; omega)).trans h.box, h.rs.grow hg (fun b e => by have := hr b e; omega),
    ⟨hg.os.trans h.gr.os, hg.tape.trans h.gr.tape, hg.output.trans h.gr.output, Nat.le_trans h.gr.size hg.size, fun i hi hne => (hg.block i (Nat.lt_of_lt_of_le hi h.gr.size) (fun e => by have := hr _ e.symm; omega)).trans (h.gr.block i hi hne)⟩, h.lt, h.n0⟩
theorem rbyte_bad (l : List Int) : (rbyte l true).2.2 = true := by cases l <;> rfl
/-- no more parts -/
theorem more_stop {α : Type} {f : List Int → Option (α × List Int)} {m : Nat} {l l2 : List Int} {bad b2 : Bool} (h : rmore l bad = (false, l2, b2)) (hb : bytesL l) (hm : l.length < m) (pre : List α) : Told (orBad bad ((plist f m l).map fun x => (pre ++ x.1, x.2))) pre l2 b2 := by
  unfold rmore at h
  obtain ⟨h1, h2, h3⟩ : _ ∧ _ ∧ _ := ⟨congrArg (·.1) h, congrArg (·.2.1) h, congrArg (·.2.2) h⟩
  simp only at h1 h2 h3
  cases bad with
  | true => rw [rbyte_bad] at h3; exact h3.symm
  | false =>
    cases l with
    | nil => rw [plist_nil]; exact h3.symm
    | cons x l =>
      obtain ⟨m, rfl⟩ : ∃ k, m = k + 1 := ⟨m - 1, by simp at hm; omega⟩
      simp only [rbyte, Bool.false_or] at h1 h2 h3
      rw [plist_cons]
      have hx := hb.head
      by_cases h0 : x = 0
      · rw [if_pos h0]
        refine ⟨(List.append_nil _).symm, h2.symm, ?_⟩
        rw [← h3]; exact decide_eq_false (by omega)
      · rw [if_neg h0]
        by_cases hx1 : x = 1
        · exfalso; subst hx1; exact absurd h1 (by simp)
        · rw [if_neg hx1]
          show b2 = true
          rw [← h3]; exact decide_eq_true (by omega)
/-- one more part -/
theorem more_go {α : Type} {f : List Int → Option (α × List Int)} {m : Nat} {l l2 : List Int} {bad b2 : Bool} (h : rmore l bad = (true, l2, b2)) (hm : l.length < m) :
    bad = false ∧ b2 = false ∧ l.length = l2.length + 1 ∧ ∃ m', m = m' + 1 ∧ l2.length < m' ∧ plist f m l = (f l2).bind fun x => (plist f m' x.2).map fun y => (x.1 :: y.1, y.2) := by
  unfold rmore at h
  obtain ⟨h1, h2, h3⟩ : _ ∧ _ ∧ _ := ⟨congrArg (·.1) h, congrArg (·.2.1) h, congrArg (·.2.2) h⟩
  simp only at h1 h2 h3
  cases bad with
  | true => rw [rbyte_bad] at h1; simp at h1
  | false =>
    cases l with
    | nil => simp [rbyte] at h1
    | cons x l =>
      obtain ⟨m, rfl⟩ : ∃ k, m = k + 1 := ⟨m - 1, by simp at hm; omega⟩
      simp only [rbyte, Bool.false_or] at h1 h2 h3
      have hx1 : x = 1 := of_decide_eq_true (Bool.and_eq_true_iff.1 h1).1
      subst h2
      subst hx1
      refine ⟨rfl, by rw [← h3]; rfl, rfl, m, rfl, by simpa using hm, ?_⟩
      rw [plist_cons, if_neg (by decide), if_pos rfl]
theorem list_step {α : Type} {f : List Int → Option (α × List Int)} {m : Nat} {l l2 l3 : List Int} {b3 : Bool} {x : α} (hp : plist f (m + 1) l = (f l2).bind fun x => (plist f m x.2).map fun y => (x.1 :: y.1, y.2)) (ht : Told (f l2) x l3 b3) (pre : List α) :
    orBad false ((plist f (m + 1) l).map fun y => (pre ++ y.1, y.2)) = orBad b3 ((plist f m l3).map fun y => (pre ++ [x] ++ y.1, y.2)) := by
  rw [hp]
  cases hf : f l2 with
  | none => rw [hf] at ht; rw [show b3 = true from ht]; rfl
  | some r =>
    rw [hf] at ht
    obtain ⟨rfl, rfl, rfl⟩ := ht
    rw [Option.bind_some, orBad, orBad, Option.map_map]
    simp [Function.comp_def]
theorem wf_parts {k : Int} {L : List V} {E : List (ByteArray × V)} (h0 : 0 ≤ k) (h1 : k ≤ 6) : (V.mk k 0 0 ⟨#[]⟩ L E).wf :=
  ⟨by show -9223372036854775808 ≤ k; omega, by show k ≤ 9223372036854775807; omega, (by decide : (-9223372036854775808 : Int) ≤ 0), (by decide : (0 : Int) ≤ 9223372036854775807), (by decide : (0 : Int) ≤ 0), (by decide : (0 : Int) ≤ 18446744073709551615), (by decide : (0 : Nat) ≤ 140737488351232)⟩
theorem VAt.list {W : World} {vb n cp : Nat} {e : TypeId} {ao : Option Addr} {ps : List (ByteArray × Loc)} (h : Acc W vb false e (.slice ao n cp) ps) (hz : ∀ p ∈ ps, p.1 = ⟨#[]⟩) (hn : ps.length = n) (hl : n ≤ 100000000) :
    VAt W (vb < ·) ⟨.mk 5 0 0 ⟨#[]⟩ (ps.map (·.2.v)) [], ao, cp, none, 0⟩ := by
  refine ⟨wf_parts (by decide) (by decide), ?_, .nil _ _ _⟩
  have := h.row (xs := lp (ps.map (·.2.v))) (by omega) (by
    unfold lp
    rw [List.map_map]
    exact List.map_congr_left (fun p hp => by rw [hz p hp]; rfl))
  show RowAt W (vb < ·) false (lp (ps.map (·.2.v))) (.slice ao (ps.map (·.2.v)).length cp)
  rw [List.length_map, hn]
  exact this
theorem VAt.table {W : World} {vb n cp : Nat} {e : TypeId} {ao : Option Addr} {ps : List (ByteArray × Loc)} (h : Acc W vb true e (.slice ao n cp) ps) (hn : ps.length = n) (hl : n ≤ 100000000) :
    VAt W (vb < ·) ⟨.mk 6 0 0 ⟨#[]⟩ [] (ps.map fun p => (p.1, p.2.v)), none, 0, ao, cp⟩ := by
  refine ⟨wf_parts (by decide) (by decide), .nil _ _ _, ?_⟩
  have := h.row (by omega) rfl
  show RowAt W (vb < ·) true (ps.map fun p => (p.1, p.2.v)) (.slice ao (ps.map fun p => (p.1, p.2.v)).length cp)
  rw [List.length_map, hn]
  exact this
theorem Acc.above {W : World} {vb : Nat} {t : Bool} {e : TypeId} {v : Value} {ps : List (ByteArray × Loc)} (h : Acc W vb t e v ps) : ∀ b, v.ownBlock = some b → vb < b := fun b hb => (h.own.lt b hb).1
/-- a value that was made since -/
theorem Acc.fresh {W W' : World} {vb : Nat} {t : Bool} {e : TypeId} {v : Value} {ps : List (ByteArray × Loc)} {q : Loc} (h : Acc W vb t e v ps) (hv : vb < W.heap.size) (hq : VAt W' (fun b => W.heap.size ≤ b) q) : VAt W' (fun b => vb < b ∧ v.ownBlock ≠ some b) q :=
  hq.weak (fun b hb _ => ⟨by omega, fun e => by have := (h.own.lt b e).2; omega⟩)
/-- an entry -/
def pent (d : Nat) (l : List Int) : Option ((ByteArray × V) × List Int) := (pchain l).bind fun k => (pval d k.2).map fun x => ((strOf k.1, x.1), x.2)
theorem told_ent {d : Nat} {l l3 l4 t : List Int} {b3 b4 : Bool} {x : V} (h : Told (orBad false (pchain l)) t l3 b3) (k : Told (orBad b3 (pval d l3)) x l4 b4) : Told (pent d l) (strOf t, x) l4 b4 := by
  unfold pent
  cases hc : pchain l with
  | none =>
    rw [hc] at h
    rw [show b3 = true from h] at k
    exact k
  | some r =>
    rw [hc] at h
    obtain ⟨rfl, rfl, rfl⟩ := h
    rw [Option.bind_some]
    cases hp : pval d r.2 with
    | none => rw [hp] at k; exact k
    | some y =>
      rw [hp] at k
      obtain ⟨rfl, rfl, rfl⟩ := k
      exact ⟨rfl, rfl, rfl⟩
end Go.Proofs.YtmpaaedccodjaaaDoor
