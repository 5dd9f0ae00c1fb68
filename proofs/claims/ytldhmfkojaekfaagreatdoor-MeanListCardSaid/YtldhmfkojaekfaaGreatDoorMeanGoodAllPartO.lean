/-
  Rows of values, and of entries, that a call makes. No conditions.
  Blocks of six cells; what a call leaves alone. No conditions.
  The contract of mean.Word. Condition: the text is not too long.
  The contracts of strconv's formatBits at bases 2, 8, 16, and of strconv.FormatInt at base 16. Condition: the table of bits.TrailingZeros64 lies in the world.
  The contract of strconv's inner ParseUint at base 16, 32 bits. Condition: 1 to 6 bytes.
  Plain laws on strings and bytes, in the walk's spelling. No conditions.
  The contracts of strconv.ParseUint at base 16, 32 bits, and of esc.escape. Condition: the variable strconv.ErrSyntax holds an interface value; the text has at most 2^48 bytes.
-/
import Derived.Test.YtldhmfkojaekfaaGreatDoorProg
import Derived.Deep.DeepCutAuto
import Derived.Deep.CutBlock
import Derived.Deep.DeepFit
import Derived.Outline
import Derived.WalkLawsBesides
import Derived.StillTailTactics
import Derived.Deep.RegionHeld3
import Derived.Deep.RegionLaw
import Derived.Shelf.Unicode.PredsPay
import Derived.Lib.ItoaNum
import Derived.Laws.Externs
import Derived.WalkKit
import Derived.Lib.Strings
import Derived.Lib.IndexBytes
import Derived.Lib.Bytealg
import Derived.Test.YtldhmfkojaekfaaGreatDoorMeanGoodAllPartN
set_option linter.unusedVariables false
namespace Go.Proofs.YtldhmfkojaekfaaGreatDoor
open Go.RowKit Gx
set_option maxRecDepth 100000
theorem grown_alloc' {v : Value} {w w1 : World} (o : Obj) (h : (w.alloc o).grownBy w1 v.ownBlock) : w.grownBy w1 v.ownBlock :=
  ⟨h.os, h.tape, h.output, Nat.le_trans (by simp) h.size, fun i hi hne => (h.block i (by simp; omega) hne).trans (Below.heap_alloc w o i hi)⟩

/-- an element's cells -/
def cellsT (t : Bool) (p : ByteArray × Loc) : List Value := if t then .string p.1 :: p.2.cs else p.2.cs
theorem cellsT_len (t : Bool) (p : ByteArray × Loc) : (cellsT t p).length = st t := by cases t <;> rfl
theorem flat_get {α : Type} {f : α → List Value} {k : Nat} (hk : ∀ a, (f a).length = k) : ∀ (ps : List α) (i : Nat) (p : α), ps[i]? = some p → ∀ j, j < k → (ps.flatMap f)[i * k + j]? = (f p)[j]?
  | [], i, p, h, _, _ => by simp at h
  | q :: ps, 0, p, h, j, hj => by
    obtain rfl : q = p := by simpa using h
    rw [List.flatMap_cons, Nat.zero_mul, Nat.zero_add, List.getElem?_append_left (by rw [hk]; exact hj)]
  | q :: ps, i + 1, p, h, j, hj => by
    have ih := flat_get hk ps i p (by simpa using h) j hj
    rw [List.flatMap_cons, List.getElem?_append_right (by rw [hk, Nat.succ_mul]; omega), hk, show (i + 1) * k + j - k = i * k + j by rw [Nat.succ_mul]; omega]
    exact ih
/-- a row of its own, above v's box, of such elements -/
structure Acc (w : World) (vb : Nat) (t : Bool) (e : TypeId) (v : Value) (ps : List (ByteArray × Loc)) : Prop where
  own : w.ownsRow (vb + 1) e (st t) v ps.length (ps.flatMap (cellsT t))
  at_ : ∀ p ∈ ps, VAt w (fun b => vb < b ∧ v.ownBlock ≠ some b) p.2
  key : ∀ p ∈ ps, p.1.size ≤ 140737488351232
theorem Acc.nil (w : World) (vb : Nat) (t : Bool) (e : TypeId) : Acc w vb t e (.slice none 0 0) [] := ⟨World.ownsRow_nil _ _ _ _, fun _ h => absurd h List.not_mem_nil, fun _ h => absurd h List.not_mem_nil⟩
theorem Acc.grow {w w' : World} {vb : Nat} {t : Bool} {e : TypeId} {v : Value} {ps : List (ByteArray × Loc)} {r : Option Nat} (h : Acc w vb t e v ps) (hg : w.grownBy w' r) (hr : ∀ b, r = some b → b ≤ vb) : Acc w' vb t e v ps := by
  refine ⟨h.own.kept hg ?_, fun p hp => (h.at_ p hp).grow hg (fun b hb hb2 => by have := hr b hb; omega), h.key⟩
  cases hv : v.ownBlock with
  | none => exact .inl rfl
  | some b =>
    have := (h.own.lt b hv).1
    exact .inr (fun e => by have := hr b e.symm; omega)
theorem Acc.form {w : World} {vb : Nat} {t : Bool} {e : TypeId} {v : Value} {ps : List (ByteArray × Loc)} (h : Acc w vb t e v ps) : ∃ ao c, v = .slice ao ps.length c := own_form h.own
theorem Acc.push {w w' : World} {vb : Nat} {t : Bool} {e : TypeId} {v v' : Value} {ps : List (ByteArray × Loc)} {p : ByteArray × Loc} (h : Acc w vb t e v ps) (hp : VAt w (fun b => vb < b ∧ v.ownBlock ≠ some b) p.2) (hk : p.1.size ≤ 140737488351232)
    (ho : w'.ownsRow (vb + 1) e (st t) v' (ps.length + 1) (ps.flatMap (cellsT t) ++ cellsT t p)) (hg : w.grownBy w' v.ownBlock) (hm : Moved v v' w.heap.size) : Acc w' vb t e v' (ps ++ [p]) := by
  refine ⟨by rw [List.length_append, List.flatMap_append]; simpa using ho, fun x hx => ?_, fun x hx => ?_⟩
  · have hx' : VAt w (fun b => vb < b ∧ v.ownBlock ≠ some b) x.2 := by
      rcases List.mem_append.1 hx with hx | hx
      · exact h.at_ x hx
      · obtain rfl : x = p := by simpa using hx
        exact hp
    refine hx'.through hg.size (fun b hb hl => hg.block b hl (fun e => hb.2 e.symm)) (fun b hb hl => ⟨hb.1, fun e => ?_⟩)
    rcases hm with hm | ⟨g, hm, hgl⟩
    · exact hb.2 (by rw [← hm]; exact e)
    · rw [hm] at e; have : g = b := Option.some.inj e; omega
  · rcases List.mem_append.1 hx with hx | hx
    · exact h.key x hx
    · obtain rfl : x = p := by simpa using hx
      exact hk
/-- what lies in such a row -/
theorem Acc.row {w : World} {vb : Nat} {t : Bool} {e : TypeId} {v : Value} {ps : List (ByteArray × Loc)} {xs : List (ByteArray × V)} (h : Acc w vb t e v ps) (hl : ps.length * (st t * 16 - 8) ≤ 140737488351232) (hx : xs = ps.map fun p => (p.1, p.2.v)) : RowAt w (vb < ·) t xs v := by
  subst hx
  have hcell := fun g => h.own.cells (g := g)
  have hlt := h.own.lt
  rcases h.own.2 with ⟨rfl, h0⟩ | ⟨g, cap, cur, rfl, hb, -⟩
  · obtain rfl : ps = [] := List.eq_nil_of_length_eq_zero h0
    exact .nil _ _ _
  by_cases hne : ps = []
  · subst hne; exact .nil _ _ _
  have hm : (ps.map fun p => (p.1, p.2.v)).length = ps.length := List.length_map _
  have hget : ∀ i x, (ps.map fun p => (p.1, p.2.v))[i]? = some x → ∃ p : ByteArray × Loc, ps[i]? = some p ∧ (p.1, p.2.v) = x := fun i x hi => by
    rw [List.getElem?_map] at hi
    exact Option.map_eq_some_iff.1 hi
  have hc : ∀ i p, ps[i]? = some p → ∀ j u, j < st t → (cellsT t p)[j]? = some u → w.cell? ⟨g, 0 + i * st t + j, none⟩ = some u := fun i p hi j u hj hu => by
    have := hcell g rfl (i * st t + j) u ((flat_get (cellsT_len t) ps i p hi j hj).trans hu)
    rw [Addr.add_lit] at this
    rw [Nat.add_assoc]; exact this
  have hin : ∀ i p, ps[i]? = some p → p ∈ ps := fun i p hi => List.mem_of_getElem? hi
  have hB : ∀ {p : ByteArray × Loc}, p ∈ ps → VAt w (vb < ·) p.2 := fun hp => (h.at_ _ hp).weak (fun b hb _ => hb.1)
  have hsl : ∀ i : Nat, ∃ s : Value × Value, ∀ p, ps[i]? = some p → s = (p.2.sl, p.2.se) := fun i => by
    cases hp : ps[i]? with
    | none => exact ⟨(undef, undef), fun p h => (by cases h)⟩
    | some p => exact ⟨(p.2.sl, p.2.se), fun q h => (by cases h; rfl)⟩
  obtain ⟨S, hS⟩ : ∃ S : Nat → Value × Value, ∀ i p, ps[i]? = some p → S i = (p.2.sl, p.2.se) := ⟨fun i => Classical.choose (hsl i), fun i => Classical.choose_spec (hsl i)⟩
  have hgt := (hlt g rfl)
  have key : RowAt w (vb < ·) t (ps.map fun p => (p.1, p.2.v)) (.slice (some ⟨g, 0, none⟩) (ps.map fun p => (p.1, p.2.v)).length cap) := by
    refine .row t _ g 0 cap (fun i => (S i).1) (fun i => (S i).2) (by simpa using hne) (by rw [hm]; exact hl) (by omega) hgt.2 (fun ht i x hi => ?_) (fun i x hi => ?_) (fun i x hi => ?_) (fun i x hi => ?_)
    · obtain ⟨p, hp, rfl⟩ := hget i x hi
      subst ht
      exact ⟨hc i p hp 0 _ (by decide) rfl, h.key p (hin i p hp)⟩
    · obtain ⟨p, hp, rfl⟩ := hget i x hi
      refine ⟨(hB (hin i p hp)).wf, ?_⟩
      simp only [hS i p hp]
      cases t with
      | false => exact ⟨hc i p hp 0 _ (by decide) rfl, hc i p hp 1 _ (by decide) rfl, hc i p hp 2 _ (by decide) rfl, hc i p hp 3 _ (by decide) rfl, hc i p hp 4 _ (by decide) rfl, hc i p hp 5 _ (by decide) rfl⟩
      | true => exact ⟨hc i p hp 1 _ (by decide) rfl, hc i p hp 2 _ (by decide) rfl, hc i p hp 3 _ (by decide) rfl, hc i p hp 4 _ (by decide) rfl, hc i p hp 5 _ (by decide) rfl, hc i p hp 6 _ (by decide) rfl⟩
    · obtain ⟨p, hp, rfl⟩ := hget i x hi
      simp only [hS i p hp]
      exact (hB (hin i p hp)).l
    · obtain ⟨p, hp, rfl⟩ := hget i x hi
      simp only [hS i p hp]
      exact (hB (hin i p hp)).e
  rw [hm] at key
  exact key
theorem Tryz.info_val : (Tryz.prog.info? 26).map (fun i => (i.zero, i.size, i.bytes)) = some (some (.agg #[.int .i64 0, .int .i64 0, .int .u64 0, .string ⟨#[]⟩, .slice none 0 0, .slice none 0 0]), 6, 88) := by kernel_rfl
theorem Tryz.info_ent : (Tryz.prog.info? 44).map (fun i => (i.zero, i.size, i.bytes)) = some (some (.agg #[.string ⟨#[]⟩, .int .i64 0, .int .i64 0, .int .u64 0, .string ⟨#[]⟩, .slice none 0 0, .slice none 0 0]), 7, 104) := by kernel_rfl
theorem cellsT_one (t : Bool) (p : ByteArray × Loc) : ∀ u ∈ cellsT t p, u.oneCell' = true := by
  intro u hu
  cases t with
  | false =>
    simp only [cellsT, Loc.cs, List.mem_cons, List.not_mem_nil, or_false, if_neg (show ¬ (false = true) by decide)] at hu
    rcases hu with rfl | rfl | rfl | rfl | rfl | rfl <;> rfl
  | true =>
    simp only [cellsT, Loc.cs, List.mem_cons, List.not_mem_nil, or_false, if_true] at hu
    rcases hu with rfl | rfl | rfl | rfl | rfl | rfl | rfl <;> rfl
/-- an element is put behind the others, within a region that draws its order -/
theorem step_acc {t : Bool} {e ti : TypeId} {z : Value} {bytes : Nat} (ht : Tryz.prog.underlying ti = some (.slice e)) (hinfo : (Tryz.prog.info? e).map (fun i => (i.zero, i.size, i.bytes)) = some (some z, st t, bytes)) (hzs : z.cells.size = st t) (hby : bytes ≤ 104)
    {ops : Array Oper} {o : Oper} {ac : Act} {K : Act → World → Prop} {Q : Exit → Act → World → Prop} {F : Prop} {w : World} {vb : Nat} {v : Value} {ps : List (ByteArray × Loc)} (hgd : o.guard = none) (s x : Operand)
    (ho : o.op = .call { callee := .builtin .append, args := #[s, x], argTypes := #[ti, ti] }) (h : Acc w vb t e v ps) (hb : vb + 1 ≤ w.heap.size) (p : ByteArray × Loc) (hp : VAt w (fun b => vb < b ∧ v.ownBlock ≠ some b) p.2) (hk : p.1.size ≤ 140737488351232)
    (W : World) (hW : W = w.alloc (.cells (cellsT t p).toArray e)) (hs : ac.eval s = v) (hx : ac.eval x = .slice (some ⟨w.heap.size, 0, none⟩) 1 1) (n : Nat) (hn : ps.length = n) (hl : (n + 1) * bytes ≤ 140737488351232) (h63 : n ≤ 10000000000000)
    (hK : ∀ ao c w', Acc w' vb t e (.slice ao (n + 1) c) (ps ++ [p]) → w.grownBy w' v.ownBlock → K (ac.put o.dst (.slice ao (n + 1) c)) w') :
    if Region.wanted o (yielded ops ac.tmps) = true then Oper.wp Tryz.prog o ac W K Q else F := by
  subst hW
  subst hn
  obtain ⟨i0, hi, hz0, hz1, hz2⟩ := info_parts hinfo
  have hw : Region.wanted o (yielded ops ac.tmps) = true := by simp [Region.wanted, hgd]
  rw [if_pos hw]
  have hst : 0 < st t := by cases t <;> decide
  obtain ⟨v', w', hr, ho2, hg, hm, hnn⟩ := run_append_moved (P := Tryz.prog) (w.alloc (.cells (cellsT t p).toArray e)) (vb + 1) ti o.type e i0 z (st t) bytes ht hi hz0 hz1 hz2 hzs hst v ps.length (ps.flatMap (cellsT t))
    (h.own.alloc _) ⟨w.heap.size, 0, none⟩ 1 1 (cellsT t p) (by rw [cellsT_len, Nat.one_mul])
    (fun j u hj => by
      rw [Addr.add_lit]
      have := World.cell?_alloc_mark w (cellsT t p).toArray e (0, 0) (0 + j)
      rw [this]; simpa using hj)
    (cellsT_one t p) (Nat.le_trans hl (by decide)) (by unfold maxLen; omega) (by simp; omega)
  have hg' := grown_alloc' (.cells (cellsT t p).toArray e) hg
  have hm' : Moved v v' w.heap.size := by
    rcases hm with hm | ⟨g, hm, hgl⟩
    · exact .inl hm
    · exact .inr ⟨g, hm, by simp at hgl; omega⟩
  have hacc := h.push hp hk ho2 hg' hm'
  obtain ⟨ao, c, rfl⟩ := own_form ho2
  unfold Oper.wp execOp
  simp only [ho, resolve, invoke, builtin, Sem.run_bind, Sem.run_pure, Result.andThen_ok, List.map_toArray, List.map_cons, List.map_nil, hs, hx, hr]
  exact hK ao c w' hacc hg'
theorem Acc.above {W : World} {vb : Nat} {t : Bool} {e : TypeId} {v : Value} {ps : List (ByteArray × Loc)} (h : Acc W vb t e v ps) : ∀ b, v.ownBlock = some b → vb < b := fun b hb => (h.own.lt b hb).1
/-- a value that was made since -/
theorem Acc.fresh {W W' : World} {vb : Nat} {t : Bool} {e : TypeId} {v : Value} {ps : List (ByteArray × Loc)} {q : Loc} (h : Acc W vb t e v ps) (hv : vb < W.heap.size) (hq : VAt W' (fun b => W.heap.size ≤ b) q) : VAt W' (fun b => vb < b ∧ v.ownBlock ≠ some b) q :=
  hq.weak (fun b hb _ => ⟨by omega, fun e => by have := (h.own.lt b e).2; omega⟩)
end Go.Proofs.YtldhmfkojaekfaaGreatDoor
namespace Go.Proofs.YtldhmfkojaekfaaGreatDoor
open Go.RowKit Gx
theorem grown_none {W W' : World} (hb : Below W.heap.size W W') : W.grownBy W' none := ⟨hb.os, hb.tape, hb.output, hb.size, fun i hi _ => hb.block i hi⟩
theorem grown_cell (w : World) (b j : Nat) (v : Value) : w.grownBy (w.setCell ⟨b, j, none⟩ v) (some b) :=
  ⟨rfl, rfl, rfl, by simp [World.setCell], fun k _ hk => Below.heap_setCell _ _ _ k (fun e => hk (by rw [e]))⟩
/-- six cells are written -/
theorem six_store {w : World} {b : Nat} {ty : TypeId} {a0 a1 a2 a3 a4 a5 : Value} (h : w.heap[b]? = some (.cells #[a0, a1, a2, a3, a4, a5] ty)) (j : Nat) (u : Value) : (w.setCell ⟨b, j, none⟩ u).heap[b]? = some (.cells (#[a0, a1, a2, a3, a4, a5].setIfInBounds j u) ty) := by
  simp [World.setCell, Array.getElem?_modify, h]
theorem six_cells {w : World} {b : Nat} {ty : TypeId} {a0 a1 a2 a3 a4 a5 : Value} (h : w.heap[b]? = some (.cells #[a0, a1, a2, a3, a4, a5] ty)) : w.cell? ⟨b, 0, none⟩ = some a0 ∧ w.cell? ⟨b, 1, none⟩ = some a1 ∧ w.cell? ⟨b, 2, none⟩ = some a2 ∧ w.cell? ⟨b, 3, none⟩ = some a3 ∧ w.cell? ⟨b, 4, none⟩ = some a4 ∧ w.cell? ⟨b, 5, none⟩ = some a5 ∧ (∀ j, w.frozen? ⟨b, j, none⟩ = false) :=
  ⟨by simp [World.cell?, h], by simp [World.cell?, h], by simp [World.cell?, h], by simp [World.cell?, h], by simp [World.cell?, h], by simp [World.cell?, h], fun j => by simp [World.frozen?, h]⟩
theorem seven_cells {w : World} {b : Nat} {ty : TypeId} {a0 a1 a2 a3 a4 a5 a6 : Value} (h : w.heap[b]? = some (.cells #[a0, a1, a2, a3, a4, a5, a6] ty)) : w.cell? ⟨b, 0, none⟩ = some a0 ∧ w.cell? ⟨b, 1, none⟩ = some a1 ∧ w.cell? ⟨b, 2, none⟩ = some a2 ∧ w.cell? ⟨b, 3, none⟩ = some a3 ∧ w.cell? ⟨b, 4, none⟩ = some a4 ∧ w.cell? ⟨b, 5, none⟩ = some a5 ∧ w.cell? ⟨b, 6, none⟩ = some a6 :=
  ⟨by simp [World.cell?, h], by simp [World.cell?, h], by simp [World.cell?, h], by simp [World.cell?, h], by simp [World.cell?, h], by simp [World.cell?, h], by simp [World.cell?, h]⟩
theorem six_all {W : World} {b : Nat} {ty : TypeId} {a0 a1 a2 a3 a4 a5 : Value} (h : W.heap[b]? = some (.cells #[a0, a1, a2, a3, a4, a5] ty)) (u0 u1 u2 u3 u4 u5 : Value) :
    ∃ W9, W9 = (((((W.setCell ⟨b, 0, none⟩ u0).setCell ⟨b, 1, none⟩ u1).setCell ⟨b, 2, none⟩ u2).setCell ⟨b, 3, none⟩ u3).setCell ⟨b, 4, none⟩ u4).setCell ⟨b, 5, none⟩ u5 ∧
      W9.heap[b]? = some (.cells #[u0, u1, u2, u3, u4, u5] ty) ∧ (∀ c, c ≠ b → W9.heap[c]? = W.heap[c]?) ∧ W.heap.size ≤ W9.heap.size ∧
      (∀ B w, Below B w W → B ≤ b → Below B w W9) ∧ ∀ B q, VAt W B q → ¬ B b → VAt W9 B q := by
  have h0 : (W.setCell ⟨b, 0, none⟩ u0).heap[b]? = some (.cells #[u0, a1, a2, a3, a4, a5] ty) := six_store h 0 u0
  have h1 : ((W.setCell ⟨b, 0, none⟩ u0).setCell ⟨b, 1, none⟩ u1).heap[b]? = some (.cells #[u0, u1, a2, a3, a4, a5] ty) := six_store h0 1 u1
  have h2 : (((W.setCell ⟨b, 0, none⟩ u0).setCell ⟨b, 1, none⟩ u1).setCell ⟨b, 2, none⟩ u2).heap[b]? = some (.cells #[u0, u1, u2, a3, a4, a5] ty) := six_store h1 2 u2
  have h3 : ((((W.setCell ⟨b, 0, none⟩ u0).setCell ⟨b, 1, none⟩ u1).setCell ⟨b, 2, none⟩ u2).setCell ⟨b, 3, none⟩ u3).heap[b]? = some (.cells #[u0, u1, u2, u3, a4, a5] ty) := six_store h2 3 u3
  have h4 : (((((W.setCell ⟨b, 0, none⟩ u0).setCell ⟨b, 1, none⟩ u1).setCell ⟨b, 2, none⟩ u2).setCell ⟨b, 3, none⟩ u3).setCell ⟨b, 4, none⟩ u4).heap[b]? = some (.cells #[u0, u1, u2, u3, u4, a5] ty) := six_store h3 4 u4
  have h5 : ((((((W.setCell ⟨b, 0, none⟩ u0).setCell ⟨b, 1, none⟩ u1).setCell ⟨b, 2, none⟩ u2).setCell ⟨b, 3, none⟩ u3).setCell ⟨b, 4, none⟩ u4).setCell ⟨b, 5, none⟩ u5).heap[b]? = some (.cells #[u0, u1, u2, u3, u4, u5] ty) := six_store h4 5 u5
  have hh : ∀ (B : Nat → Prop), ¬ B b → ∀ b', some b = some b' → ¬ B b' := fun B hn b' e => by cases e; exact hn
  refine ⟨_, rfl, h5, fun c hc => ?_, by simp, fun B w hb hB => (((((hb.setCell hB u0).setCell hB u1).setCell hB u2).setCell hB u3).setCell hB u4).setCell hB u5, fun B q hq hn =>
    (((((hq.grow (grown_cell _ _ 0 u0) (hh B hn)).grow (grown_cell _ _ 1 u1) (hh B hn)).grow (grown_cell _ _ 2 u2) (hh B hn)).grow (grown_cell _ _ 3 u3) (hh B hn)).grow (grown_cell _ _ 4 u4) (hh B hn)).grow (grown_cell _ _ 5 u5) (hh B hn)⟩
  by_cases hl : c < W.heap.size
  · have g : ∀ (X : World) (j : Nat) (u : Value), c < X.heap.size → (X.setCell ⟨b, j, none⟩ u).heap[c]? = X.heap[c]? := fun X j u hx => (grown_cell X b j u).block c hx (fun e => hc (Option.some.inj e))
    have z : ∀ (X : World) (j : Nat) (u : Value), c < X.heap.size → c < (X.setCell ⟨b, j, none⟩ u).heap.size := fun X j u hx => Nat.lt_of_lt_of_le hx (grown_cell X b j u).size
    have l0 := z W 0 u0 hl
    have l1 := z _ 1 u1 l0
    have l2 := z _ 2 u2 l1
    have l3 := z _ 3 u3 l2
    have l4 := z _ 4 u4 l3
    rw [g _ 5 u5 l4, g _ 4 u4 l3, g _ 3 u3 l2, g _ 2 u2 l1, g _ 1 u1 l0, g _ 0 u0 hl]
  · rw [Array.getElem?_eq_none (by simp; omega), Array.getElem?_eq_none (by omega)]
end Go.Proofs.YtldhmfkojaekfaaGreatDoor
namespace Go.Proofs.YtldhmfkojaekfaaGreatDoor
open Go.RowKit Gx
set_option maxRecDepth 100000
theorem readEnd_in (m : Bool) (x : Option (Int × Nat × Int)) : -9223372036854775808 ≤ (readEnd m x).1 ∧ (readEnd m x).1 ≤ 9223372036854775807 := by
  unfold readEnd
  cases x with
  | none => exact ⟨show -9223372036854775808 ≤ (0 : Int) by decide, show (0 : Int) ≤ 9223372036854775807 by decide⟩
  | some p =>
    obtain ⟨y, n, o⟩ := p
    simp only []
    split
    · exact ⟨by decide, by decide⟩
    · split
      · exact ⟨by decide, by decide⟩
      · rename_i h
        have hn : n ≤ limitOf m := by omega
        unfold limitOf at hn
        cases m with
        | true => simp only [if_true] at hn ⊢; omega
        | false => simp only [Bool.false_eq_true, if_false] at hn ⊢; omega
theorem readOf_in (l : List UInt8) : -9223372036854775808 ≤ (readOf l).1 ∧ (readOf l).1 ≤ 9223372036854775807 := by
  unfold readOf
  split
  · exact ⟨by decide, by decide⟩
  · unfold readBy
    split
    · exact ⟨by decide, by decide⟩
    · exact readEnd_in _ _
def zeroA : Array Value := #[.int .i64 0, .int .i64 0, .int .u64 0, .string ⟨#[]⟩, .slice none 0 0, .slice none 0 0]
/-- what mean.Word hands back -/
def WordPost (l : List UInt8) (w : World) (e : Ending) (w' : World) : Prop := Below w.heap.size w w' ∧
  ((∃ k n f : Int, wordOf l = some (.mk k n f ⟨#[]⟩ [] []) ∧ (V.mk k n f ⟨#[]⟩ [] []).wf ∧ e = .returned (.tuple #[.agg #[.int .i64 k, .int .i64 n, .int .u64 f, .string ⟨#[]⟩, .slice none 0 0, .slice none 0 0], .int .i64 0])) ∨
   (wordOf l = none ∧ ∃ c : Int, c ≠ 0 ∧ e = .returned (.tuple #[.agg #[.int .i64 0, .int .i64 0, .int .u64 0, .string ⟨#[]⟩, .slice none 0 0, .slice none 0 0], .int .i64 c])))
theorem wf_bare {k n f : Int} (k0 : -9223372036854775808 ≤ k) (k1 : k ≤ 9223372036854775807) (n0 : -9223372036854775808 ≤ n) (n1 : n ≤ 9223372036854775807) (f0 : 0 ≤ f) (f1 : f ≤ 18446744073709551615) : (V.mk k n f ⟨#[]⟩ [] []).wf := ⟨k0, k1, n0, n1, f0, f1, by show (0 : Nat) ≤ 140737488351232; decide⟩
set_option maxHeartbeats 8000000 in
theorem word_any (s : ByteArray) (w : World) : Calls Tryz.prog 84 #[.string s] w (WordPost s.data.toList w) := by
  have htl : s.data.toList = s.toList := (ByteArray.toList_eq s).symm
  have hb0 := (Below.refl w.heap.size w).alloc (Nat.le_refl _) (.cells #[.int .i64 0, .int .i64 0, .int .u64 0, .string ⟨#[]⟩, .slice none 0 0, .slice none 0 0] 26)
  have hr0 := heap_alloc_new w (.cells #[.int .i64 0, .int .i64 0, .int .u64 0, .string ⟨#[]⟩, .slice none 0 0, .slice none 0 0] 26)
  have HBY := Lib.hid (fun (k n f : Int) (h : wordOf s.data.toList = some (.mk k n f ⟨#[]⟩ [] [])) => h)
  have HNO := Lib.hid (fun (h : wordOf s.data.toList = none) => h)
  have HTL := Lib.hid htl
  clear htl
  go_enter Tryz.func84, Tryz.ntmps84
  go_upto_region 1 with fail
  generalize hw1 : World.alloc w _ = w1 at hb0 hr0 ⊢
  clear hw1
  have HB1 := Lib.hid hb0
  have HR1 := Lib.hid hr0
  clear hb0 hr0
  cases c0 : (s.toList == [110, 117, 108, 108]) with
  | true =>
    have hw : wordOf s.data.toList = some (.mk 0 0 0 ⟨#[]⟩ [] []) := by rw [HTL.out, beq_iff_eq.1 c0]; rfl
    obtain ⟨W9, hW9, hr9, -, -, hbw, -⟩ := six_all HR1.out (.int .i64 0) (.int .i64 0) (.int .u64 0) (.string ⟨#[]⟩) (.slice none 0 0) (.slice none 0 0)
    obtain ⟨g0, g1, g2, g3, g4, g5, gf⟩ := six_cells HR1.out
    have gf0 := gf 0
    have gf1 := gf 1
    have gf2 := gf 2
    have gf3 := gf 3
    have gf4 := gf 4
    have gf5 := gf 5
    obtain ⟨q0, q1, q2, q3, q4, q5, -⟩ := six_cells hr9
    have HW9 := Lib.hid hW9
    have HR : Hid (WordPost s.data.toList w (.returned (.tuple #[.agg #[.int .i64 0, .int .i64 0, .int .u64 0, .string ⟨#[]⟩, .slice none 0 0, .slice none 0 0], .int .i64 0])) W9) := Lib.hid ⟨hbw _ _ HB1.out (Nat.le_refl _), .inl ⟨0, 0, 0, hw, wf_bare (by decide) (by decide) (by decide) (by decide) (by decide) (by decide), rfl⟩⟩
    clear hW9 hr9 hbw gf HBY HNO
    go_wp2_with fail
    rw [← HW9.out]
    exact bodyPost_ret (v := .tuple #[.agg #[.int .i64 0, .int .i64 0, .int .u64 0, .string ⟨#[]⟩, .slice none 0 0, .slice none 0 0], .int .i64 0]) (by simp [results, Tryz.results84, go_sem, q0, q1, q2, q3, q4, q5]) rfl HR.out
  | false =>
    have n0 : ¬ s.data.toList = nullT := by rw [HTL.out]; exact beq_eq_false_iff_ne.1 c0
    cases c1 : (s.toList == [116, 114, 117, 101]) with
    | true =>
      have hw : wordOf s.data.toList = some (.mk 1 1 0 ⟨#[]⟩ [] []) := by rw [HTL.out, beq_iff_eq.1 c1]; rfl
      obtain ⟨W9, hW9, hr9, -, -, hbw, -⟩ := six_all HR1.out (.int .i64 1) (.int .i64 1) (.int .u64 0) (.string ⟨#[]⟩) (.slice none 0 0) (.slice none 0 0)
      obtain ⟨g0, g1, g2, g3, g4, g5, gf⟩ := six_cells HR1.out
      have gf0 := gf 0
      have gf1 := gf 1
      have gf2 := gf 2
      have gf3 := gf 3
      have gf4 := gf 4
      have gf5 := gf 5
      obtain ⟨q0, q1, q2, q3, q4, q5, -⟩ := six_cells hr9
      have HW9 := Lib.hid hW9
      have HR : Hid (WordPost s.data.toList w (.returned (.tuple #[.agg #[.int .i64 1, .int .i64 1, .int .u64 0, .string ⟨#[]⟩, .slice none 0 0, .slice none 0 0], .int .i64 0])) W9) := Lib.hid ⟨hbw _ _ HB1.out (Nat.le_refl _), .inl ⟨1, 1, 0, hw, wf_bare (by decide) (by decide) (by decide) (by decide) (by decide) (by decide), rfl⟩⟩
      clear hW9 hr9 hbw gf HBY HNO
      go_wp2_with fail
      rw [← HW9.out]
      exact bodyPost_ret (v := .tuple #[.agg #[.int .i64 1, .int .i64 1, .int .u64 0, .string ⟨#[]⟩, .slice none 0 0, .slice none 0 0], .int .i64 0]) (by simp [results, Tryz.results84, go_sem, q0, q1, q2, q3, q4, q5]) rfl HR.out
    | false =>
      have n1 : ¬ s.data.toList = trueT := by rw [HTL.out]; exact beq_eq_false_iff_ne.1 c1
      cases c2 : (s.toList == [102, 97, 108, 115, 101]) with
      | true =>
        have hw : wordOf s.data.toList = some (.mk 1 0 0 ⟨#[]⟩ [] []) := by rw [HTL.out, beq_iff_eq.1 c2]; rfl
        obtain ⟨W9, hW9, hr9, -, -, hbw, -⟩ := six_all HR1.out (.int .i64 1) (.int .i64 0) (.int .u64 0) (.string ⟨#[]⟩) (.slice none 0 0) (.slice none 0 0)
        obtain ⟨g0, g1, g2, g3, g4, g5, gf⟩ := six_cells HR1.out
        have gf0 := gf 0
        have gf1 := gf 1
        have gf2 := gf 2
        have gf3 := gf 3
        have gf4 := gf 4
        have gf5 := gf 5
        obtain ⟨q0, q1, q2, q3, q4, q5, -⟩ := six_cells hr9
        have HW9 := Lib.hid hW9
        have HR : Hid (WordPost s.data.toList w (.returned (.tuple #[.agg #[.int .i64 1, .int .i64 0, .int .u64 0, .string ⟨#[]⟩, .slice none 0 0, .slice none 0 0], .int .i64 0])) W9) := Lib.hid ⟨hbw _ _ HB1.out (Nat.le_refl _), .inl ⟨1, 0, 0, hw, wf_bare (by decide) (by decide) (by decide) (by decide) (by decide) (by decide), rfl⟩⟩
        clear hW9 hr9 hbw gf HBY HNO
        go_wp2_with fail
        rw [← HW9.out]
        exact bodyPost_ret (v := .tuple #[.agg #[.int .i64 1, .int .i64 0, .int .u64 0, .string ⟨#[]⟩, .slice none 0 0, .slice none 0 0], .int .i64 0]) (by simp [results, Tryz.results84, go_sem, q0, q1, q2, q3, q4, q5]) rfl HR.out
      | false =>
        have n2 : ¬ s.data.toList = falseT := by rw [HTL.out]; exact beq_eq_false_iff_ne.1 c2
        have hwd : wordOf s.data.toList = if (readOf s.data.toList).2 = 0 then some (.mk 2 (readOf s.data.toList).1 0 ⟨#[]⟩ [] []) else if (readOf s.data.toList).2 = 4 then (floatOf s.data.toList).map fun x : Nat => V.mk 3 0 (x : Int) ⟨#[]⟩ [] [] else none := by
          unfold wordOf
          rw [if_neg n0, if_neg n1, if_neg n2]
        have hin := readOf_in s.data.toList
        have HRD := Lib.hid (read_any s w1)
        unfold YtldhmfkojaekfaaGreatDoor.ReadPost at HRD
        obtain ⟨⟨n, er⟩, hr⟩ : ∃ r, readOf s.data.toList = r := ⟨_, rfl⟩
        rw [hr] at hwd hin HRD
        have HWD := Lib.hid hwd
        obtain ⟨hin0, hin1⟩ := hin
        simp only at hin0 hin1
        clear n0 n1 n2 hwd hr
        go_wp2_with fail
        (with_reducible refine HRD.out.mono ?_)
        rintro e w2 ⟨rfl, hb2⟩
        have HB2 := Lib.hid (HB1.out.trans (hb2.mono HB1.out.size))
        have HR2 : Hid (w2.heap[w.heap.size]? = some (.cells #[.int .i64 0, .int .i64 0, .int .u64 0, .string ⟨#[]⟩, .slice none 0 0, .slice none 0 0] 26)) := Lib.hid ((hb2.block _ (Array.getElem?_eq_some_iff.1 HR1.out).1).trans HR1.out)
        clear hb2 HRD
        simp only at HWD ⊢
        by_cases h0 : er = 0
        · subst h0
          have hw : wordOf s.data.toList = some (.mk 2 n 0 ⟨#[]⟩ [] []) := by rw [HWD.out, if_pos rfl]
          obtain ⟨W9, hW9, hr9, -, -, hbw, -⟩ := six_all HR2.out (.int .i64 2) (.int .i64 n) (.int .u64 0) (.string ⟨#[]⟩) (.slice none 0 0) (.slice none 0 0)
          obtain ⟨g0, g1, g2, g3, g4, g5, gf⟩ := six_cells HR2.out
          have gf0 := gf 0
          have gf1 := gf 1
          have gf2 := gf 2
          have gf3 := gf 3
          have gf4 := gf 4
          have gf5 := gf 5
          obtain ⟨q0, q1, q2, q3, q4, q5, -⟩ := six_cells hr9
          have HW9 := Lib.hid hW9
          have HR : Hid (WordPost s.data.toList w (.returned (.tuple #[.agg #[.int .i64 2, .int .i64 n, .int .u64 0, .string ⟨#[]⟩, .slice none 0 0, .slice none 0 0], .int .i64 0])) W9) := Lib.hid ⟨hbw _ _ HB2.out (Nat.le_refl _), .inl ⟨2, n, 0, hw, wf_bare (by decide) (by decide) hin0 hin1 (by decide) (by decide), rfl⟩⟩
          clear hW9 hr9 hbw gf HBY HNO
          go_wp2_with fail
          rw [← HW9.out]
          exact bodyPost_ret (v := .tuple #[.agg #[.int .i64 2, .int .i64 n, .int .u64 0, .string ⟨#[]⟩, .slice none 0 0, .slice none 0 0], .int .i64 0]) (by simp [results, Tryz.results84, go_sem, q0, q1, q2, q3, q4, q5]) rfl HR.out
        have t0 : (er == 0) = false := beq_eq_false_iff_ne.2 h0
        by_cases h4 : er = 4
        rotate_left
        · have t4 : (er == 4) = false := beq_eq_false_iff_ne.2 h4
          have hw : wordOf s.data.toList = none := by rw [HWD.out, if_neg h0, if_neg h4]
          obtain ⟨W9, hW9, hr9, -, -, hbw, -⟩ := six_all HR2.out (.int .i64 0) (.int .i64 0) (.int .u64 0) (.string ⟨#[]⟩) (.slice none 0 0) (.slice none 0 0)
          obtain ⟨g0, g1, g2, g3, g4, g5, gf⟩ := six_cells HR2.out
          have gf0 := gf 0
          have gf1 := gf 1
          have gf2 := gf 2
          have gf3 := gf 3
          have gf4 := gf 4
          have gf5 := gf 5
          obtain ⟨q0, q1, q2, q3, q4, q5, -⟩ := six_cells hr9
          have HW9 := Lib.hid hW9
          have HR : Hid (WordPost s.data.toList w (.returned (.tuple #[.agg #[.int .i64 0, .int .i64 0, .int .u64 0, .string ⟨#[]⟩, .slice none 0 0, .slice none 0 0], .int .i64 er])) W9) := Lib.hid ⟨hbw _ _ HB2.out (Nat.le_refl _), .inr ⟨hw, er, h0, rfl⟩⟩
          clear hW9 hr9 hbw gf HBY HNO
          go_wp2_with fail
          rw [← HW9.out]
          exact bodyPost_ret (v := .tuple #[.agg #[.int .i64 0, .int .i64 0, .int .u64 0, .string ⟨#[]⟩, .slice none 0 0, .slice none 0 0], .int .i64 er]) (by simp [results, Tryz.results84, go_sem, q0, q1, q2, q3, q4, q5]) rfl HR.out
        subst h4
        have HF := Lib.hid (read_f s w2)
        unfold YtldhmfkojaekfaaGreatDoor.ReadPostF at HF
        clear t0 h0
        go_wp2_with fail
        (with_reducible refine HF.out.mono ?_)
        rintro e w3 ⟨x, er, rfl, hR, hb3⟩
        have HB3 := Lib.hid (HB2.out.trans (hb3.mono HB2.out.size))
        have HR3 : Hid (w3.heap[w.heap.size]? = some (.cells #[.int .i64 0, .int .i64 0, .int .u64 0, .string ⟨#[]⟩, .slice none 0 0, .slice none 0 0] 26)) := Lib.hid ((hb3.block _ (Array.getElem?_eq_some_iff.1 HR2.out).1).trans HR2.out)
        clear hb3 HF
        have hx := (read_kind hR).1
        by_cases h0 : er = 0
        · subst h0
          have hw : wordOf s.data.toList = some (.mk 3 0 x ⟨#[]⟩ [] []) := by rw [HWD.out, if_neg (by decide), if_pos (by first | rfl | trivial), float_yes hR]; rfl
          have hx0 : (0 : Int) ≤ (x : Int) := by omega
          have hx1 : (x : Int) ≤ 18446744073709551615 := by omega
          clear hx hR
          obtain ⟨W9, hW9, hr9, -, -, hbw, -⟩ := six_all HR3.out (.int .i64 3) (.int .i64 0) (.int .u64 x) (.string ⟨#[]⟩) (.slice none 0 0) (.slice none 0 0)
          obtain ⟨g0, g1, g2, g3, g4, g5, gf⟩ := six_cells HR3.out
          have gf0 := gf 0
          have gf1 := gf 1
          have gf2 := gf 2
          have gf3 := gf 3
          have gf4 := gf 4
          have gf5 := gf 5
          obtain ⟨q0, q1, q2, q3, q4, q5, -⟩ := six_cells hr9
          have HW9 := Lib.hid hW9
          have HR : Hid (WordPost s.data.toList w (.returned (.tuple #[.agg #[.int .i64 3, .int .i64 0, .int .u64 x, .string ⟨#[]⟩, .slice none 0 0, .slice none 0 0], .int .i64 0])) W9) := Lib.hid ⟨hbw _ _ HB3.out (Nat.le_refl _), .inl ⟨3, 0, x, hw, wf_bare (by decide) (by decide) (by decide) (by decide) hx0 hx1, rfl⟩⟩
          clear hW9 hr9 hbw gf HBY HNO
          go_wp2_with fail
          rw [← HW9.out]
          exact bodyPost_ret (v := .tuple #[.agg #[.int .i64 3, .int .i64 0, .int .u64 x, .string ⟨#[]⟩, .slice none 0 0, .slice none 0 0], .int .i64 0]) (by simp [results, Tryz.results84, go_sem, q0, q1, q2, q3, q4, q5]) rfl HR.out
        · have t0 : (er == 0) = false := beq_eq_false_iff_ne.2 h0
          have hw : wordOf s.data.toList = none := by rw [HWD.out, if_neg (by decide), if_pos (by first | rfl | trivial), float_no hR h0]; rfl
          clear hx hR
          obtain ⟨W9, hW9, hr9, -, -, hbw, -⟩ := six_all HR3.out (.int .i64 0) (.int .i64 0) (.int .u64 0) (.string ⟨#[]⟩) (.slice none 0 0) (.slice none 0 0)
          obtain ⟨g0, g1, g2, g3, g4, g5, gf⟩ := six_cells HR3.out
          have gf0 := gf 0
          have gf1 := gf 1
          have gf2 := gf 2
          have gf3 := gf 3
          have gf4 := gf 4
          have gf5 := gf 5
          obtain ⟨q0, q1, q2, q3, q4, q5, -⟩ := six_cells hr9
          have HW9 := Lib.hid hW9
          have HR : Hid (WordPost s.data.toList w (.returned (.tuple #[.agg #[.int .i64 0, .int .i64 0, .int .u64 0, .string ⟨#[]⟩, .slice none 0 0, .slice none 0 0], .int .i64 er])) W9) := Lib.hid ⟨hbw _ _ HB3.out (Nat.le_refl _), .inr ⟨hw, er, h0, rfl⟩⟩
          clear hW9 hr9 hbw gf HBY HNO
          go_wp2_with fail
          rw [← HW9.out]
          exact bodyPost_ret (v := .tuple #[.agg #[.int .i64 0, .int .i64 0, .int .u64 0, .string ⟨#[]⟩, .slice none 0 0, .slice none 0 0], .int .i64 er]) (by simp [results, Tryz.results84, go_sem, q0, q1, q2, q3, q4, q5]) rfl HR.out
end Go.Proofs.YtldhmfkojaekfaaGreatDoor
namespace Go.Proofs.YtldhmfkojaekfaaGreatDoor
open Go.RowKit Gx
/-- of the table what is read here -/
def BTab (w : World) : Prop := w.cell? ⟨7, 1, none⟩ = some (.int .u8 1) ∧ w.cell? ⟨7, 7, none⟩ = some (.int .u8 3) ∧ w.cell? ⟨7, 15, none⟩ = some (.int .u8 4)
theorem BTab.keep {w w' : World} (h : BTab w) (hb : Below w.heap.size w w') : BTab w' := by
  obtain ⟨h1, h2, h3⟩ := h
  have k : ∀ (p : Addr) (v : Value), w.cell? p = some v → w'.cell? p = some v := by
    intro p v hp
    exact (hb.cell (World.block_lt_of_cell? w p hp)).trans hp
  exact ⟨k _ _ h1, k _ _ h2, k _ _ h3⟩

def lgOf (b : Nat) : Nat := if b = 2 then 1 else if b = 8 then 3 else 4

def BitsPost (x : List UInt8) (w : World) (e : Ending) (w' : World) : Prop := e = .returned (.tuple #[.slice none 0 0, .string ⟨x.toArray⟩]) ∧ Below w.heap.size w w'

theorem room (b v i u0 : Nat) (hb : 2 ≤ b) (hv : 1 ≤ v) (hi : i ≤ 65) (hu : u0 ≤ 9223372036854775808) (h : v * b ^ (65 - i) ≤ u0) : 2 ≤ i := by
  rcases Nat.lt_or_ge i 2 with hlt | hge
  · exfalso
    have h1 : 2 ^ (65 - i) ≤ b ^ (65 - i) := Nat.pow_le_pow_left hb _
    have h2 : (2 : Nat) ^ 64 ≤ 2 ^ (65 - i) := Nat.pow_le_pow_right (by decide) (by omega)
    have h3 : 1 * b ^ (65 - i) ≤ v * b ^ (65 - i) := Nat.mul_le_mul_right _ hv
    have h4 : (2 : Nat) ^ 64 = 18446744073709551616 := by decide
    omega
  · exact hge
def digitsText : ByteArray := ⟨#[48, 49, 50, 51, 52, 53, 54, 55, 56, 57, 97, 98, 99, 100, 101, 102, 103, 104, 105, 106, 107, 108, 109, 110, 111, 112, 113, 114, 115, 116, 117, 118, 119, 120, 121, 122]⟩
def NTabs (w : World) : Prop := BTab w ∧ Lib.TabIs Tryz.prog w "internal/strconv.uint64pow10" .u64 Lib.pow10Tab
theorem NTabs.keep {w w' : World} (h : NTabs w) (hb : Below w.heap.size w w') : NTabs w' :=
  ⟨h.1.keep hb, TabIs_below (g := 3) (by kernel_rfl) h.2 hb⟩

def numText (n : Int) (b : Nat) : List UInt8 := (if decide (n < 0) then [45] else []) ++ digF (n.natAbs + 1) b n.natAbs
def StrPost (x : List UInt8) (w : World) (e : Ending) (w' : World) : Prop := e = .returned (.string ⟨x.toArray⟩) ∧ Below w.heap.size w w'

end Go.Proofs.YtldhmfkojaekfaaGreatDoor
namespace Go.Proofs.YtldhmfkojaekfaaGreatDoor
open Go.RowKit Gx
set_option maxRecDepth 100000
def lowB (c : Nat) : Nat := c ||| 32
def LowPost (c : Nat) (w : World) (e : Ending) (w' : World) : Prop := e = .returned (.int .u8 (lowB c : Nat)) ∧ w = w'
theorem low_bits (c : Nat) (h : c < 256) : bits BinOp.or IntKind.u8 (c : Int) 32 = ((lowB c : Nat) : Int) := by
  have key : ∀ e : Fin 256, bits BinOp.or IntKind.u8 ((e.val : Nat) : Int) 32 = ((lowB e.val : Nat) : Int) := by decide +kernel
  exact key ⟨c, h⟩
set_option maxHeartbeats 400000 in
theorem low_any (c : Nat) (h : c < 256) (w : World) : Calls Tryz.prog 186 #[.int .u8 c] w (LowPost c w) := by
  have hl := low_bits c h
  have HL := Lib.hid hl
  clear hl
  go_enter Tryz.func186, Tryz.ntmps186
  go_wp2
  go_ret
  exact ⟨by rw [← HL.out]; rfl, rfl⟩
/-- of which kind a byte is -/
theorem hex_kind (c : UInt8) : (48 ≤ c.toNat ∧ c.toNat ≤ 57 ∧ hexOf c = some (c.toNat - 48)) ∨ ((c.toNat < 48 ∨ 57 < c.toNat) ∧ c.toNat ≠ 95 ∧ 97 ≤ lowB c.toNat ∧ lowB c.toNat ≤ 102 ∧ hexOf c = some (lowB c.toNat - 87)) ∨
    ((c.toNat < 48 ∨ 57 < c.toNat) ∧ 103 ≤ lowB c.toNat ∧ lowB c.toNat ≤ 122 ∧ hexOf c = none) ∨ ((c.toNat < 48 ∨ 57 < c.toNat) ∧ (lowB c.toNat < 97 ∨ 122 < lowB c.toNat) ∧ hexOf c = none) := by
  have key : ∀ e : Fin 256, (48 ≤ (UInt8.ofNat e.val).toNat ∧ (UInt8.ofNat e.val).toNat ≤ 57 ∧ hexOf (UInt8.ofNat e.val) = some ((UInt8.ofNat e.val).toNat - 48)) ∨ (((UInt8.ofNat e.val).toNat < 48 ∨ 57 < (UInt8.ofNat e.val).toNat) ∧ (UInt8.ofNat e.val).toNat ≠ 95 ∧ 97 ≤ lowB (UInt8.ofNat e.val).toNat ∧ lowB (UInt8.ofNat e.val).toNat ≤ 102 ∧ hexOf (UInt8.ofNat e.val) = some (lowB (UInt8.ofNat e.val).toNat - 87)) ∨
    (((UInt8.ofNat e.val).toNat < 48 ∨ 57 < (UInt8.ofNat e.val).toNat) ∧ 103 ≤ lowB (UInt8.ofNat e.val).toNat ∧ lowB (UInt8.ofNat e.val).toNat ≤ 122 ∧ hexOf (UInt8.ofNat e.val) = none) ∨ (((UInt8.ofNat e.val).toNat < 48 ∨ 57 < (UInt8.ofNat e.val).toNat) ∧ (lowB (UInt8.ofNat e.val).toNat < 97 ∨ 122 < lowB (UInt8.ofNat e.val).toNat) ∧ hexOf (UInt8.ofNat e.val) = none) := by decide +kernel
  have h := key ⟨c.toNat, UInt8.toNat_lt c⟩
  have e : UInt8.ofNat c.toNat = c := by simp
  rw [e] at h
  exact h

def ParseUPost (l : List UInt8) (w : World) (e : Ending) (w' : World) : Prop :=
  (∃ v : Nat, hexVal l 0 = some v ∧ e = .returned (.tuple #[.int .u64 v, .nilIface]) ∧ Below w.heap.size w w') ∨
  (hexVal l 0 = none ∧ e = .returned (.tuple #[.int .u64 0, .iface 230 (.int .i64 2)]) ∧ Below w.heap.size w w')
theorem pow16_le (k : Nat) (hk : k ≤ 5) : 16 ^ k ≤ 1048576 := Nat.pow_le_pow_right (show 16 > 0 by decide) hk
theorem hexVal_step (l : List UInt8) (k : Nat) (v : Nat) (hk : k < l.length) : hexVal (l.drop k) v = match hexOf l[k] with
    | none => none
    | some d => hexVal (l.drop (k + 1)) (v * 16 + d) := by
  rw [List.drop_eq_getElem_cons hk, hexVal]
  cases hexOf l[k] <;> rfl

set_option maxHeartbeats 4000000 in
theorem parseU_any (s : ByteArray) (w : World) (h1 : 1 ≤ s.size) (h6 : s.size ≤ 6) : Calls Tryz.prog 169 #[.string s, .int .i64 16, .int .i64 32] w (ParseUPost s.data.toList w) := by
  have hl := Lib.size_eq s
  obtain ⟨cap, w2, hconv, -, hsz2, hg, hC⟩ := Gx.conv_bytes_run (P := Tryz.prog) w 9 72 5 s Tryz.underlying9 Tryz.underlying72 Tryz.underlying5
  have hb2 : Below w.heap.size w w2 := Gx.grown_below hg (Nat.le_refl _) (by simp)
  have HYES := Lib.hid (fun (v : Nat) (h : hexVal s.data.toList 0 = some v) => (show ParseUPost s.data.toList w (.returned (.tuple #[.int .u64 v, .nilIface])) w2 from .inl ⟨v, h, rfl, hb2⟩))
  have HNO := Lib.hid (fun (h : hexVal s.data.toList 0 = none) => (show ParseUPost s.data.toList w (.returned (.tuple #[.int .u64 0, .iface 230 (.int .i64 2)])) w2 from .inr ⟨h, rfl, hb2⟩))
  generalize ParseUPost s.data.toList w = POST at *
  have hem : s.toList.isEmpty = false ∧ ¬ s.toList = [] := by
    have h3 : s.toList.length = s.size := by rw [Go.Lib.toList_data]; simp
    have : s.toList ≠ [] := by intro h4; rw [h4, List.length_nil] at h3; omega
    exact ⟨by cases h4 : s.toList with
      | nil => exact absurd h4 this
      | cons => rfl, this⟩
  obtain ⟨em1, em2⟩ := hem
  have HST := Lib.hid (fun k v (hk : k < s.data.toList.length) => hexVal_step s.data.toList k v hk)
  have hd0 : hexVal (s.data.toList.drop 0) 0 = hexVal s.data.toList 0 := by rw [List.drop_zero]
  have hend : ∀ k v, k = s.size → hexVal (s.data.toList.drop k) v = some v := by
    intro k v hk
    rw [List.drop_eq_nil_of_le (by omega)]; rfl
  generalize hexVal s.data.toList 0 = HV at *
  have HD0 := Lib.hid hd0
  have HEND := Lib.hid hend
  have HC := Lib.hid hC
  have HL := Lib.hid hl
  clear hd0 hend hC hg hsz2 hl hb2
  go_enter Tryz.func169, Tryz.ntmps169
  go_wp2_with fail
  clear hconv em1 em2
  go_loop [12, 13, 101] (fun uv nv iv => ∃ k v : Nat, uv = .bool false ∧ k ≤ s.size ∧ iv = .int .i64 k ∧ nv = .int .u64 v ∧ v < 16777216 ∧ Hid (v < 16 ^ k) ∧ Hid (hexVal (s.data.toList.drop k) v = HV)) (fun _ _ iv => s.size - (intOf iv).toNat)
  case atStart => exact ⟨0, 0, rfl, Nat.zero_le _, rfl, rfl, by decide, (by show (0 : Nat) < 16 ^ 0; decide), HD0.out⟩
  case round =>
    obtain ⟨k, v, rfl, hk, rfl, rfl, hv, hvk, hq⟩ := hrel
    by_cases hlt : k < s.size
    · have c0 := HC.out k hlt
      have hst := HST.out k v (by have := HL.out; omega)
      have hkk := hex_kind s.data[k]
      have hvb : v < 1048576 := Nat.lt_of_lt_of_le hvk.out (pow16_le k (by omega))
      rw [hq.out] at hst
      have hidx : s.data.toList[k]'(by have := HL.out; omega) = s.data[k] := rfl
      rw [hidx] at hst
      have hx256 := UInt8.toNat_lt s.data[k]
      have HLO := Lib.hid (fun w0 => low_any s.data[k].toNat hx256 w0)
      unfold LowPost at HLO
      obtain ⟨x, hx⟩ : ∃ x : Nat, x = s.data[k].toNat := ⟨_, rfl⟩
      rw [← hx] at c0 hkk HLO hx256
      obtain ⟨ho, hho⟩ : ∃ o, o = hexOf s.data[k] := ⟨_, rfl⟩
      rw [← hho] at hst hkk
      clear hx hho hidx
      have t95 : ∀ y : Nat, y ≠ 95 → ((y : Int) == 95) = false := fun y hy => by rw [beq_eq_false_iff_ne]; omega
      rcases hkk with ⟨a1, a2, rfl⟩ | ⟨a1, a95, a2, a3, rfl⟩ | ⟨a1, a2, a3, rfl⟩ | ⟨a1, a2, rfl⟩
      · have hst2 := Lib.hid hst.symm
        have hpk : Hid (v * 16 + (x - 48) < 16 ^ (k + 1)) := by
          show _ < _
          have := hvk.out
          rw [Nat.pow_succ]; omega
        obtain ⟨d, hd⟩ : ∃ d, d = x - 48 := ⟨_, rfl⟩
        rw [← hd] at hst2 hpk
        have tx := t95 x (by omega)
        obtain ⟨a3, a4⟩ : 48 ≤ (x : Int) ∧ (x : Int) ≤ 57 := by omega
        have HD := Lib.hid hd
        have tc : decide ((1152921504606846976 : Int) ≤ (v : Int)) = false := decide_eq_false (by omega)
        clear hst hq hvk t95 hd HLO
        go_wp2_with fail
        go_round
        case rel => exact ⟨k + 1, v * 16 + d, rfl, by omega, by go_num, by have := HD.out; congr 1; omega, by have := HD.out; omega, hpk, hst2.out⟩
        case measure => simp [intOf]; omega
      · have hst2 := Lib.hid hst.symm
        have hpk : Hid (v * 16 + (lowB x - 87) < 16 ^ (k + 1)) := by
          show _ < _
          have := hvk.out
          rw [Nat.pow_succ]; omega
        generalize lowB x = y at *
        obtain ⟨d, hd⟩ : ∃ d, d = y - 87 := ⟨_, rfl⟩
        rw [← hd] at hst2 hpk
        have tx := t95 x (by omega)
        obtain ⟨a4, a5⟩ : 97 ≤ (y : Int) ∧ (y : Int) ≤ 102 := by omega
        have HD := Lib.hid hd
        have tc : decide ((1152921504606846976 : Int) ≤ (v : Int)) = false := decide_eq_false (by omega)
        clear hst hq hvk t95 hd
        rcases a1 with a1 | a1
        · have n1 : ¬ 48 ≤ (x : Int) := by omega
          go_wp2_with fail
          refine (HLO.out _).mono ?_
          rintro e0 w3 ⟨rfl, rfl⟩
          go_wp2_with fail
          refine (HLO.out _).mono ?_
          rintro e0 w3 ⟨rfl, rfl⟩
          go_wp2_with fail
          refine (HLO.out _).mono ?_
          rintro e0 w3 ⟨rfl, rfl⟩
          go_wp2_with fail
          go_round
          case rel => exact ⟨k + 1, v * 16 + d, rfl, by omega, by go_num, by have := HD.out; congr 1; omega, by have := HD.out; omega, hpk, hst2.out⟩
          case measure => simp [intOf]; omega
        · have n1 : ¬ (x : Int) ≤ 57 := by omega
          have n2 : 48 ≤ (x : Int) := by omega
          go_wp2_with fail
          refine (HLO.out _).mono ?_
          rintro e0 w3 ⟨rfl, rfl⟩
          go_wp2_with fail
          refine (HLO.out _).mono ?_
          rintro e0 w3 ⟨rfl, rfl⟩
          go_wp2_with fail
          refine (HLO.out _).mono ?_
          rintro e0 w3 ⟨rfl, rfl⟩
          go_wp2_with fail
          go_round
          case rel => exact ⟨k + 1, v * 16 + d, rfl, by omega, by go_num, by have := HD.out; congr 1; omega, by have := HD.out; omega, hpk, hst2.out⟩
          case measure => simp [intOf]; omega
      · have N := Lib.hid (HNO.out hst)
        generalize lowB x = y at *
        have tx : ((x : Int) == 95) = false ∨ ((x : Int) == 95) = true := by cases ((x : Int) == 95); exact .inl rfl; exact .inr rfl
        obtain ⟨a4, a5⟩ : 103 ≤ (y : Int) ∧ (y : Int) ≤ 122 := by omega
        clear hst hq hvk t95
        rcases a1 with a1 | a1
        · have n1 : ¬ 48 ≤ (x : Int) := by omega
          rcases tx with tx | tx
          all_goals
            go_wp2_with fail
            refine (HLO.out _).mono ?_
            rintro e0 w3 ⟨rfl, rfl⟩
            go_wp2_with fail
            refine (HLO.out _).mono ?_
            rintro e0 w3 ⟨rfl, rfl⟩
            go_wp2_with fail
            refine (HLO.out _).mono ?_
            rintro e0 w3 ⟨rfl, rfl⟩
            go_wp2_with fail
            try go_ret2
            exact N.out
        · have n1 : ¬ (x : Int) ≤ 57 := by omega
          have n2 : 48 ≤ (x : Int) := by omega
          rcases tx with tx | tx
          all_goals
            go_wp2_with fail
            refine (HLO.out _).mono ?_
            rintro e0 w3 ⟨rfl, rfl⟩
            go_wp2_with fail
            refine (HLO.out _).mono ?_
            rintro e0 w3 ⟨rfl, rfl⟩
            go_wp2_with fail
            refine (HLO.out _).mono ?_
            rintro e0 w3 ⟨rfl, rfl⟩
            go_wp2_with fail
            try go_ret2
            exact N.out
      · have N := Lib.hid (HNO.out hst)
        generalize lowB x = y at *
        have tx : ((x : Int) == 95) = false ∨ ((x : Int) == 95) = true := by cases ((x : Int) == 95); exact .inl rfl; exact .inr rfl
        clear hst hq hvk t95
        have n0 : (¬ 48 ≤ (x : Int)) ∨ (48 ≤ (x : Int) ∧ ¬ (x : Int) ≤ 57) := by omega
        have y0 : (¬ 97 ≤ (y : Int)) ∨ (97 ≤ (y : Int) ∧ ¬ (y : Int) ≤ 122) := by omega
        clear a1 a2
        rcases n0 with n1 | ⟨n2, n1⟩ <;> rcases y0 with y1 | ⟨y2, y1⟩ <;> rcases tx with tx | tx
        all_goals
          go_wp2_with fail
          refine (HLO.out _).mono ?_
          rintro e0 w3 ⟨rfl, rfl⟩
          go_wp2_with fail
          try (refine (HLO.out _).mono ?_; rintro e0 w3 ⟨rfl, rfl⟩; go_wp2_with fail)
          try go_ret2
          exact N.out
    · have N := Lib.hid (HYES.out v (by rw [← hq.out]; exact HEND.out k v (by omega)))
      clear hq hvk
      go_wp2_with fail
      try go_ret2
      exact N.out
end Go.Proofs.YtldhmfkojaekfaaGreatDoor
namespace Go.Proofs.YtldhmfkojaekfaaGreatDoor
open Go Go.RowKit
theorem bytes_nil {s : ByteArray} (h : s.size = 0) : s = ⟨#[]⟩ := by
  apply ByteArray.ext
  apply Array.toList_inj.1
  exact List.eq_nil_of_length_eq_zero (by rw [← Lib.size_eq]; exact h)
theorem list_nil {s : ByteArray} (h : s.size = 0) : s.data.toList = [] := List.eq_nil_of_length_eq_zero (by rw [← Lib.size_eq]; exact h)
theorem list_ne {s : ByteArray} (h : 0 < s.size) : s.data.toList ≠ [] := by
  intro h2
  have := Lib.size_eq s
  rw [h2, List.length_nil] at this
  omega
theorem bytes_em {s : ByteArray} (h : 0 < s.size) : s.toList.isEmpty = false ∧ ¬ s.toList = [] := by
  have h3 : s.toList.length = s.size := by rw [Go.Lib.toList_data]; simp
  have : s.toList ≠ [] := by intro h4; rw [h4, List.length_nil] at h3; omega
  exact ⟨by cases h4 : s.toList with
    | nil => exact absurd h4 this
    | cons => rfl, this⟩
theorem byte_is (b c : UInt8) : ((b.toNat : Int) == (c.toNat : Int)) = decide (b = c) := by
  rw [Bool.eq_iff_iff, beq_iff_eq, decide_eq_true_eq]
  constructor
  · intro h; exact UInt8.toNat_inj.1 (by omega)
  · rintro rfl; rfl
theorem byte_n (b : UInt8) (c : UInt8) (n : Int) (hn : n = (c.toNat : Int)) (h : b ≠ c) : ((b.toNat : Int) == n) = false ∧ ((b.toNat : Int) != n) = true := by
  subst hn
  have := byte_is b c
  rw [decide_eq_false h] at this
  exact ⟨this, by unfold bne; rw [this]; rfl⟩
theorem byte_y (b : UInt8) (c : UInt8) (n : Int) (hn : n = (c.toNat : Int)) (h : b = c) : ((b.toNat : Int) == n) = true ∧ ((b.toNat : Int) != n) = false := by
  subst hn
  have := byte_is b c
  rw [decide_eq_true h] at this
  exact ⟨this, by unfold bne; rw [this]; rfl⟩
theorem cons_of (s : ByteArray) (h : 0 < s.size) : s.data.toList = s[0] :: s.data.toList.drop 1 := by
  have h2 : 0 < s.data.toList.length := by simpa using h
  have e : s.data.toList.drop 0 = s.data.toList[0] :: s.data.toList.drop 1 := List.drop_eq_getElem_cons h2
  rw [List.drop_zero] at e
  exact e
theorem drop_cons (s : ByteArray) (k : Nat) (h : k < s.size) : s.data.toList.drop k = s[k] :: s.data.toList.drop (k + 1) := by
  have h2 : k < s.data.toList.length := by simpa using h
  exact List.drop_eq_getElem_cons h2
theorem ext_front (s : ByteArray) (k : Nat) : (s.extract 0 k).data.toList = s.data.toList.take k := by rw [Lib.extract_data, List.drop_zero, Nat.sub_zero]
end Go.Proofs.YtldhmfkojaekfaaGreatDoor
namespace Go.Proofs.YtldhmfkojaekfaaGreatDoor
open Go.RowKit Gx
set_option maxRecDepth 100000
def ErrVar (w : World) : Prop := ∃ te pe, w.cell? ⟨4, 0, none⟩ = some (.iface te pe)
theorem ErrVar.keep {w w' : World} (h : ErrVar w) (hb : Below w.heap.size w w') : ErrVar w' := by
  obtain ⟨te, pe, h⟩ := h
  exact ⟨te, pe, (hb.cell (World.block_lt_of_cell? w _ h)).trans h⟩
def PUPost (l : List UInt8) (w : World) (e : Ending) (w' : World) : Prop :=
  (∃ v : Nat, hexVal l 0 = some v ∧ e = .returned (.tuple #[.int .u64 v, .nilIface]) ∧ Below w.heap.size w w') ∨
  (hexVal l 0 = none ∧ ∃ N, e = .returned (.tuple #[.int .u64 0, .iface 232 (.pointer (some ⟨N, 0, none⟩))]) ∧ Below w.heap.size w w')
set_option maxHeartbeats 1000000 in
theorem parseUint_any (s : ByteArray) (w : World) (h1 : 1 ≤ s.size) (h6 : s.size ≤ 6) (hE : ErrVar w) : Calls Tryz.prog 138 #[.string s, .int .i64 16, .int .i64 32] w (PUPost s.data.toList w) := by
  have hP := parseU_any s w h1 h6
  unfold ParseUPost at hP
  have HP := Lib.hid hP
  have HYES := Lib.hid (fun (v : Nat) w' (h : hexVal s.data.toList 0 = some v) (hb : Below w.heap.size w w') => (show PUPost s.data.toList w (.returned (.tuple #[.int .u64 v, .nilIface])) w' from .inl ⟨v, h, rfl, hb⟩))
  have HNO := Lib.hid (fun N w' (h : hexVal s.data.toList 0 = none) (hb : Below w.heap.size w w') => (show PUPost s.data.toList w (.returned (.tuple #[.int .u64 0, .iface 232 (.pointer (some ⟨N, 0, none⟩))])) w' from .inr ⟨h, N, rfl, hb⟩))
  have HE := Lib.hid hE
  generalize PUPost s.data.toList w = POST at *
  generalize hexVal s.data.toList 0 = HV at *
  clear hP hE
  go_enter Tryz.func138, Tryz.ntmps138
  go_wp2_with fail
  refine HP.out.mono ?_
  rintro e0 w1 (⟨v, hv, rfl, hb⟩ | ⟨hv, rfl, hb⟩)
  · have N := Lib.hid (HYES.out v w1 hv hb)
    clear hv hb
    go_wp2_with fail
    try go_ret2
    exact N.out
  · obtain ⟨te, pe, hc⟩ := HE.out.keep hb
    have HTE := Lib.hid (Tryz.strconv_toError_syntax ⟨#[80, 97, 114, 115, 101, 85, 105, 110, 116]⟩ s 16 32 (.iface te pe) w1 (by omega) hc (.inr ⟨te, pe, rfl⟩))
    have HV := Lib.hid hv
    have B1 := Lib.hid hb
    clear hv hb hc
    go_wp2_with fail
    refine HTE.out.mono ?_
    rintro e0 w2 ⟨N, rfl, -, -, hb2⟩
    have NN := Lib.hid (HNO.out N w2 HV.out (B1.out.trans (hb2.mono B1.out.size)))
    clear hb2
    go_wp2_with fail
    try go_ret2
    exact NN.out

def EscPost (l : List UInt8) (w : World) (e : Ending) (w' : World) : Prop :=
  (∃ (r : Int) (n : Nat), escOf l = some (r, n) ∧ e = .returned (.tuple #[.int .i32 r, .int .i64 n, .int .i64 0]) ∧ Below w.heap.size w w') ∨
  (escOf l = none ∧ ∃ c : Int, c ≠ 0 ∧ e = .returned (.tuple #[.int .i32 0, .int .i64 0, .int .i64 c]) ∧ Below w.heap.size w w')

theorem escOf_cons (c : UInt8) (t : List UInt8) : escOf (c :: t) = if c = 34 ∨ c = 92 ∨ c = 47 then some ((c.toNat : Int), 1)
    else if c = 110 then some (10, 1) else if c = 116 then some (9, 1) else if c = 114 then some (13, 1) else uOf (c :: t) := rfl
theorem uOf_bad (s : List UInt8) (h : Lib.hasPrefix s [117, 123] = false ∨ Lib.indexByte (s.drop 2) 125 < 1 ∨ 6 < Lib.indexByte (s.drop 2) 125) : uOf s = none := by
  unfold uOf
  split
  · rename_i hp
    rcases h with h | h
    · rw [h] at hp; cases hp
    · rw [if_pos h]
  · rfl
theorem uOf_hex (s : List UInt8) (k : Nat) (h : Lib.hasPrefix s [117, 123] = true) (hk : Lib.indexByte (s.drop 2) 125 = (k : Int)) (h1 : 1 ≤ k) (h6 : k ≤ 6) : uOf s = match hexVal ((s.drop 2).take k) 0 with
      | none => none
      | some n => if good (n : Int) = true then some ((n : Int), 3 + k) else none := by
  unfold uOf
  rw [if_pos h, hk, Int.toNat_natCast, if_neg (by omega)]
  rfl
theorem runeSize_iff (r : Int) : (runeSize r == 0) = !good r := by
  unfold runeSize
  cases hg : good r with
  | false => rfl
  | true =>
    rw [if_pos rfl]
    split
    · rfl
    split
    · rfl
    split <;> rfl

set_option maxHeartbeats 4000000 in
theorem escape_any (s : ByteArray) (w : World) (hs : s.size ≤ 281474976710656) (hE : ErrVar w) : Calls Tryz.prog 117 #[.string s] w (EscPost s.data.toList w) := by
  have HYES := Lib.hid (fun (r : Int) (n : Nat) w' (h : escOf s.data.toList = some (r, n)) (hb : Below w.heap.size w w') => (show EscPost s.data.toList w (.returned (.tuple #[.int .i32 r, .int .i64 n, .int .i64 0])) w' from .inl ⟨r, n, h, rfl, hb⟩))
  have HNO := Lib.hid (fun (c : Int) w' (hc : c ≠ 0) (h : escOf s.data.toList = none) (hb : Below w.heap.size w w') => (show EscPost s.data.toList w (.returned (.tuple #[.int .i32 0, .int .i64 0, .int .i64 c])) w' from .inr ⟨h, c, hc, rfl, hb⟩))
  have HE := Lib.hid hE
  clear hE
  generalize EscPost s.data.toList w = POST at *
  rcases Nat.eq_zero_or_pos s.size with zs | ps
  · obtain rfl := bytes_nil zs
    have N := Lib.hid (HNO.out 4 w (by decide) rfl (Below.refl _ _))
    clear zs HNO HYES
    go_enter Tryz.func117, Tryz.ntmps117
    go_wp2_with fail
    try go_ret3
    exact N.out
  obtain ⟨em1, em2⟩ := bytes_em ps
  have hcons := cons_of s ps
  have hesc := escOf_cons s[0] (s.data.toList.drop 1)
  rw [← hcons] at hesc
  generalize escOf s.data.toList = EV at *
  have p1 : (0 : Int) < (s.size : Int) := by omega
  have hx := UInt8.toNat_lt s[0]
  by_cases c1 : s[0] = 34 ∨ s[0] = 92 ∨ s[0] = 47
  · rw [if_pos c1] at hesc
    have N := Lib.hid (HYES.out _ _ w hesc (Below.refl _ _))
    have hw : IntKind.i32.wrap (s[0].toNat : Int) = (s[0].toNat : Int) := by rw [IntKind.wrap_i32]; omega
    rcases c1 with h | h | h
    · have y1 := (byte_y s[0] 34 34 rfl h).1
      clear hesc hcons h
      go_enter Tryz.func117, Tryz.ntmps117
      go_wp2_with fail
      try go_ret3
      exact N.out
    · have n1 := (byte_n s[0] 34 34 rfl (by rw [h]; decide)).1
      have y1 := (byte_y s[0] 92 92 rfl h).1
      clear hesc hcons h
      go_enter Tryz.func117, Tryz.ntmps117
      go_wp2_with fail
      try go_ret3
      exact N.out
    · have n1 := (byte_n s[0] 34 34 rfl (by rw [h]; decide)).1
      have n2 := (byte_n s[0] 92 92 rfl (by rw [h]; decide)).1
      have y1 := (byte_y s[0] 47 47 rfl h).1
      clear hesc hcons h
      go_enter Tryz.func117, Tryz.ntmps117
      go_wp2_with fail
      try go_ret3
      exact N.out
  rw [if_neg c1] at hesc
  have n1 := (byte_n s[0] 34 34 rfl (fun h => c1 (.inl h))).1
  have n2 := (byte_n s[0] 92 92 rfl (fun h => c1 (.inr (.inl h)))).1
  have n3 := (byte_n s[0] 47 47 rfl (fun h => c1 (.inr (.inr h)))).1
  by_cases c110 : s[0] = 110
  · rw [if_pos c110] at hesc
    have N := Lib.hid (HYES.out _ _ w hesc (Below.refl _ _))
    have y1 := (byte_y s[0] 110 110 rfl c110).1
    clear hesc hcons c1 c110
    go_enter Tryz.func117, Tryz.ntmps117
    go_wp2_with fail
    try go_ret3
    exact N.out
  rw [if_neg c110] at hesc
  have n4 := (byte_n s[0] 110 110 rfl c110).1
  by_cases c116 : s[0] = 116
  · rw [if_pos c116] at hesc
    have N := Lib.hid (HYES.out _ _ w hesc (Below.refl _ _))
    have y1 := (byte_y s[0] 116 116 rfl c116).1
    clear hesc hcons c1 c116
    go_enter Tryz.func117, Tryz.ntmps117
    go_wp2_with fail
    try go_ret3
    exact N.out
  rw [if_neg c116] at hesc
  have n5 := (byte_n s[0] 116 116 rfl c116).1
  by_cases c114 : s[0] = 114
  · rw [if_pos c114] at hesc
    have N := Lib.hid (HYES.out _ _ w hesc (Below.refl _ _))
    have y1 := (byte_y s[0] 114 114 rfl c114).1
    clear hesc hcons c1 c114
    go_enter Tryz.func117, Tryz.ntmps117
    go_wp2_with fail
    try go_ret3
    exact N.out
  rw [if_neg c114] at hesc
  have n6 := (byte_n s[0] 114 114 rfl c114).1
  have HCP := Tryz.strings_CutPrefix s ⟨#[117, 123]⟩ w
  have eu : (⟨#[117, 123]⟩ : ByteArray).data.toList = [117, 123] := rfl
  rw [eu] at HCP
  clear c1 c110 c116 c114 hcons eu
  cases hp : Lib.hasPrefix s.data.toList [117, 123] with
  | false =>
    have hbad := uOf_bad s.data.toList (.inl hp)
    rw [hbad] at hesc
    have N := Lib.hid (HNO.out 4 w (by decide) hesc (Below.refl _ _))
    rw [hp] at HCP
    obtain ⟨D, hD⟩ : ∃ D : ByteArray, D = ⟨(Lib.trimPrefix s.data.toList [117, 123]).toArray⟩ := ⟨_, rfl⟩
    rw [← hD] at HCP
    have HC := Lib.hid HCP
    have HI := Lib.hid (fun w0 => Tryz.strings_IndexByte D 125 w0)
    clear hesc HCP hbad hD hp HYES HNO
    go_enter Tryz.func117, Tryz.ntmps117
    go_wp2_with fail
    refine HC.out.mono ?_
    rintro e0 w1 ⟨rfl, rfl⟩
    go_wp2_with fail
    refine (HI.out w1).mono ?_
    rintro e0 w2 ⟨rfl, rfl⟩
    go_wp2_with fail
    try go_ret3
    exact N.out
  | true =>
    have htr : Lib.trimPrefix s.data.toList [117, 123] = s.data.toList.drop 2 := by unfold Lib.trimPrefix; rw [if_pos hp]; rfl
    rw [hp, htr] at HCP
    obtain ⟨D, hD⟩ : ∃ D : ByteArray, D = ⟨(s.data.toList.drop 2).toArray⟩ := ⟨_, rfl⟩
    have hDl : D.data.toList = s.data.toList.drop 2 := by rw [hD]
    rw [← hD] at HCP
    have hI := fun w0 => Tryz.strings_IndexByte D 125 w0
    have e125 : (125 : Int).toNat.toUInt8 = (125 : UInt8) := rfl
    have hbd := indexByte_bound 125 D.data.toList
    rw [← Lib.size_eq] at hbd
    simp only [e125] at hI
    have hbad := uOf_bad s.data.toList
    have hhex := fun k h => uOf_hex s.data.toList k hp h
    rw [← hDl] at hbad hhex
    obtain ⟨I, hIe⟩ : ∃ I, I = Lib.indexByte D.data.toList 125 := ⟨_, rfl⟩
    simp only [← hIe] at hI hbd hbad hhex
    have HC := Lib.hid HCP
    have HI := Lib.hid hI
    by_cases hk : I < 1 ∨ 6 < I
    · rw [hbad (.inr hk)] at hesc
      have N := Lib.hid (HNO.out 4 w (by decide) hesc (Below.refl _ _))
      clear hesc HCP hbad hhex hD hDl hp HYES HNO hI hIe e125 htr
      rcases hk with hk | hk
      · go_enter Tryz.func117, Tryz.ntmps117
        go_wp2_with fail
        refine HC.out.mono ?_
        rintro e0 w1 ⟨rfl, rfl⟩
        go_wp2_with fail
        refine (HI.out w1).mono ?_
        rintro e0 w2 ⟨rfl, rfl⟩
        go_wp2_with fail
        try go_ret3
        exact N.out
      · have hk1 : ¬ I < 1 := by omega
        go_enter Tryz.func117, Tryz.ntmps117
        go_wp2_with fail
        refine HC.out.mono ?_
        rintro e0 w1 ⟨rfl, rfl⟩
        go_wp2_with fail
        refine (HI.out w1).mono ?_
        rintro e0 w2 ⟨rfl, rfl⟩
        go_wp2_with fail
        try go_ret3
        exact N.out
    · obtain ⟨k, rfl⟩ : ∃ k : Nat, I = (k : Int) := ⟨I.toNat, by omega⟩
      have hh := hhex k rfl (by omega) (by omega)
      rw [hh] at hesc
      have hsz : (D.extract 0 k).size = k := by simp; omega
      have HPU := Lib.hid (fun w0 (h : ErrVar w0) => parseUint_any (D.extract 0 k) w0 (by omega) (by omega) h)
      unfold PUPost at HPU
      rw [ext_front] at HPU
      have hvl := fun v h => hexVal_lt (D.data.toList.take k) 0 v h
      have hkl : (D.data.toList.take k).length ≤ 6 := by rw [List.length_take]; omega
      generalize D.data.toList.take k = T at *
      have HESC := Lib.hid hesc
      have HVL := Lib.hid hvl
      obtain ⟨k1, k2, k3⟩ : (1 : Int) ≤ (k : Int) ∧ (k : Int) ≤ 6 ∧ (k : Int) ≤ (D.size : Int) := by omega
      have nk1 : ¬ (k : Int) < 1 := by omega
      have nk6 : ¬ 6 < (k : Int) := by omega
      clear hesc HCP hbad hhex hh hD hDl hp hI hIe e125 htr hvl hsz hk hbd
      go_enter Tryz.func117, Tryz.ntmps117
      go_wp2_with fail
      refine HC.out.mono ?_
      rintro e0 w1 ⟨rfl, rfl⟩
      go_wp2_with fail
      refine (HI.out w1).mono ?_
      rintro e0 w2 ⟨rfl, rfl⟩
      go_wp2_with fail
      refine (HPU.out w2 HE.out).mono ?_
      rintro e0 w3 (⟨v, hv, rfl, hb⟩ | ⟨hv, N, rfl, hb⟩)
      · have hv6 : v < 16777216 := by
          have h1 := HVL.out v hv
          have h2 : 16 ^ T.length ≤ 16 ^ 6 := Nat.pow_le_pow_right (by decide) hkl
          have h3 : (16 : Nat) ^ 6 = 16777216 := by decide
          omega
        have HS := Lib.hid (size_any (v : Int) w3)
        unfold SizePost at HS
        have hr := runeSize_iff (v : Int)
        have hE2 := HESC.out
        rw [hv] at hE2
        simp only at hE2
        cases hg : good (v : Int) with
        | true =>
          rw [hg] at hr
          rw [if_pos hg] at hE2
          have NN := Lib.hid (HYES.out _ _ w3 hE2 hb)
          generalize runeSize (v : Int) = z at *
          have tz : (z == 0) = false := hr
          have HV6 := Lib.hid hv6
          have v6 : (v : Int) < 16777216 := by omega
          clear hv hb hE2 hr hg HESC HVL hv6
          go_wp2_with fail
          refine HS.out.mono ?_
          rintro e0 w4 ⟨rfl, rfl⟩
          go_wp2_with fail
          try go_ret3
          exact NN.out
        | false =>
          rw [hg] at hr
          rw [if_neg (by rw [hg]; decide)] at hE2
          have NN := Lib.hid (HNO.out 3 w3 (by decide) hE2 hb)
          generalize runeSize (v : Int) = z at *
          have tz : (z == 0) = true := hr
          have v6 : (v : Int) < 16777216 := by omega
          clear hv hb hE2 hr hg HESC HVL hv6
          go_wp2_with fail
          refine HS.out.mono ?_
          rintro e0 w4 ⟨rfl, rfl⟩
          go_wp2_with fail
          try go_ret3
          exact NN.out
      · have hE2 := HESC.out
        rw [hv] at hE2
        have NN := Lib.hid (HNO.out 4 w3 (by decide) hE2 hb)
        clear hv hb hE2 HESC HVL
        go_wp2_with fail
        try go_ret3
        exact NN.out
end Go.Proofs.YtldhmfkojaekfaaGreatDoor
