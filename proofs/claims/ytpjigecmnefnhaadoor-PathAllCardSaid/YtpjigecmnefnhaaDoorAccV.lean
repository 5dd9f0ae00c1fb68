/-
  Rows of values, and of entries, that a call makes. No conditions.
-/
import Derived.Test.YtpjigecmnefnhaaDoorVal
import Derived.Test.YtpjigecmnefnhaaDoorProg
import Derived.Deep.DeepCutAuto
import Derived.Deep.CutBlock
import Derived.Deep.DeepFit
import Derived.Outline
import Derived.WalkLawsBesides
import Derived.StillTailTactics
import Derived.Deep.RegionHeld3
import Derived.Deep.RegionLaw
namespace Go.Proofs.YtpjigecmnefnhaaDoor
open Go.RowKit Gx
set_option maxRecDepth 100000

theorem grown_alloc' {v : Value} {w w1 : World} (o : Obj) (h : (w.alloc o).grownBy w1 v.ownBlock) : w.grownBy w1 v.ownBlock :=
  ⟨h.os, h.tape, h.output, Nat.le_trans (by simp) h.size, fun i hi hne => (h.block i (by simp; omega) hne).trans (Below.heap_alloc w o i hi)⟩

theorem Loc.cs_len (q : Loc) : q.cs.length = 6 := rfl
/-- an element's cells -/
def cellsT (t : Bool) (p : ByteArray × Loc) : List Value := if t then .string p.1 :: p.2.cs else p.2.cs
theorem cellsT_len (t : Bool) (p : ByteArray × Loc) : (cellsT t p).length = st t := by cases t <;> rfl
theorem flat_get {α : Type} {f : α → List Value} {k : Nat} (hk : ∀ a, (f a).length = k) : ∀ (ps : List α) (i : Nat) (p : α), ps[i]? = some p → ∀ j, j < k → (ps.flatMap f)[i * k + j]? = (f p)[j]?
  | [], i, p, h, _, _ => by simp at h
  | q :: ps, 0, p, h, j, hj => by
    obtain rfl : q = p := by simpa using h
    rw [List.flatMap_cons, Nat.zero_mul, Nat.zero_add, List.getElem?_append_left (by rw [hk]; exact hj)]
  | q :: ps, i + 1, p, h, j, hj => by
    have ih := flat_get hk ps i p (by simpa using h) j hj
    rw [List.flatMap_cons, List.getElem?_append_right (by rw [hk, Nat.succ_mul]; omega), hk, show (i + 1) * k + j - k = i * k + j by rw [Nat.succ_mul]; omega]
    exact ih
/-- a row of its own, above v's box, of such elements -/
structure Acc (w : World) (vb : Nat) (t : Bool) (e : TypeId) (v : Value) (ps : List (ByteArray × Loc)) : Prop where
  own : w.ownsRow (vb + 1) e (st t) v ps.length (ps.flatMap (cellsT t))
  at_ : ∀ p ∈ ps, VAt w (fun b => vb < b ∧ v.ownBlock ≠ some b) p.2
  key : ∀ p ∈ ps, p.1.size ≤ 140737488351232
theorem Acc.nil (w : World) (vb : Nat) (t : Bool) (e : TypeId) : Acc w vb t e (.slice none 0 0) [] := ⟨World.ownsRow_nil _ _ _ _, fun _ h => absurd h List.not_mem_nil, fun _ h => absurd h List.not_mem_nil⟩
theorem Acc.grow {w w' : World} {vb : Nat} {t : Bool} {e : TypeId} {v : Value} {ps : List (ByteArray × Loc)} {r : Option Nat} (h : Acc w vb t e v ps) (hg : w.grownBy w' r) (hr : ∀ b, r = some b → b ≤ vb) : Acc w' vb t e v ps := by
  refine ⟨h.own.kept hg ?_, fun p hp => (h.at_ p hp).grow hg (fun b hb hb2 => by have := hr b hb; omega), h.key⟩
  cases hv : v.ownBlock with
  | none => exact .inl rfl
  | some b =>
    have := (h.own.lt b hv).1
    exact .inr (fun e => by have := hr b e.symm; omega)
theorem Acc.form {w : World} {vb : Nat} {t : Bool} {e : TypeId} {v : Value} {ps : List (ByteArray × Loc)} (h : Acc w vb t e v ps) : ∃ ao c, v = .slice ao ps.length c := own_form h.own
theorem Acc.push {w w' : World} {vb : Nat} {t : Bool} {e : TypeId} {v v' : Value} {ps : List (ByteArray × Loc)} {p : ByteArray × Loc} (h : Acc w vb t e v ps) (hp : VAt w (fun b => vb < b ∧ v.ownBlock ≠ some b) p.2) (hk : p.1.size ≤ 140737488351232)
    (ho : w'.ownsRow (vb + 1) e (st t) v' (ps.length + 1) (ps.flatMap (cellsT t) ++ cellsT t p)) (hg : w.grownBy w' v.ownBlock) (hm : Moved v v' w.heap.size) : Acc w' vb t e v' (ps ++ [p]) := by
  refine ⟨by rw [List.length_append, List.flatMap_append]; simpa using ho, fun x hx => ?_, fun x hx => ?_⟩
  · have hx' : VAt w (fun b => vb < b ∧ v.ownBlock ≠ some b) x.2 := by
      rcases List.mem_append.1 hx with hx | hx
      · exact h.at_ x hx
      · obtain rfl : x = p := by simpa using hx
        exact hp
    refine hx'.through hg.size (fun b hb hl => hg.block b hl (fun e => hb.2 e.symm)) (fun b hb hl => ⟨hb.1, fun e => ?_⟩)
    rcases hm with hm | ⟨g, hm, hgl⟩
    · exact hb.2 (by rw [← hm]; exact e)
    · rw [hm] at e; have : g = b := Option.some.inj e; omega
  · rcases List.mem_append.1 hx with hx | hx
    · exact h.key x hx
    · obtain rfl : x = p := by simpa using hx
      exact hk
/-- what lies in such a row -/
theorem Acc.row {w : World} {vb : Nat} {t : Bool} {e : TypeId} {v : Value} {ps : List (ByteArray × Loc)} {xs : List (ByteArray × V)} (h : Acc w vb t e v ps) (hl : ps.length * (st t * 16 - 8) ≤ 140737488351232) (hx : xs = ps.map fun p => (p.1, p.2.v)) : RowAt w (vb < ·) t xs v := by
  subst hx
  have hcell := fun g => h.own.cells (g := g)
  have hlt := h.own.lt
  rcases h.own.2 with ⟨rfl, h0⟩ | ⟨g, cap, cur, rfl, hb, -⟩
  · obtain rfl : ps = [] := List.eq_nil_of_length_eq_zero h0
    exact .nil _ _ _
  by_cases hne : ps = []
  · subst hne; exact .nil _ _ _
  have hm : (ps.map fun p => (p.1, p.2.v)).length = ps.length := List.length_map _
  have hget : ∀ i x, (ps.map fun p => (p.1, p.2.v))[i]? = some x → ∃ p : ByteArray × Loc, ps[i]? = some p ∧ (p.1, p.2.v) = x := fun i x hi => by
    rw [List.getElem?_map] at hi
    exact Option.map_eq_some_iff.1 hi
  have hc : ∀ i p, ps[i]? = some p → ∀ j u, j < st t → (cellsT t p)[j]? = some u → w.cell? ⟨g, 0 + i * st t + j, none⟩ = some u := fun i p hi j u hj hu => by
    have := hcell g rfl (i * st t + j) u ((flat_get (cellsT_len t) ps i p hi j hj).trans hu)
    rw [Addr.add_lit] at this
    rw [Nat.add_assoc]; exact this
  have hin : ∀ i p, ps[i]? = some p → p ∈ ps := fun i p hi => List.mem_of_getElem? hi
  have hB : ∀ {p : ByteArray × Loc}, p ∈ ps → VAt w (vb < ·) p.2 := fun hp => (h.at_ _ hp).weak (fun b hb _ => hb.1)
  have hsl : ∀ i : Nat, ∃ s : Value × Value, ∀ p, ps[i]? = some p → s = (p.2.sl, p.2.se) := fun i => by
    cases hp : ps[i]? with
    | none => exact ⟨(undef, undef), fun p h => (by cases h)⟩
    | some p => exact ⟨(p.2.sl, p.2.se), fun q h => (by cases h; rfl)⟩
  obtain ⟨S, hS⟩ : ∃ S : Nat → Value × Value, ∀ i p, ps[i]? = some p → S i = (p.2.sl, p.2.se) := ⟨fun i => Classical.choose (hsl i), fun i => Classical.choose_spec (hsl i)⟩
  have hgt := (hlt g rfl)
  have key : RowAt w (vb < ·) t (ps.map fun p => (p.1, p.2.v)) (.slice (some ⟨g, 0, none⟩) (ps.map fun p => (p.1, p.2.v)).length cap) := by
    refine .row t _ g 0 cap (fun i => (S i).1) (fun i => (S i).2) (by simpa using hne) (by rw [hm]; exact hl) (by omega) hgt.2 (fun ht i x hi => ?_) (fun i x hi => ?_) (fun i x hi => ?_) (fun i x hi => ?_)
    · obtain ⟨p, hp, rfl⟩ := hget i x hi
      subst ht
      exact ⟨hc i p hp 0 _ (by decide) rfl, h.key p (hin i p hp)⟩
    · obtain ⟨p, hp, rfl⟩ := hget i x hi
      refine ⟨(hB (hin i p hp)).wf, ?_⟩
      simp only [hS i p hp]
      cases t with
      | false => exact ⟨hc i p hp 0 _ (by decide) rfl, hc i p hp 1 _ (by decide) rfl, hc i p hp 2 _ (by decide) rfl, hc i p hp 3 _ (by decide) rfl, hc i p hp 4 _ (by decide) rfl, hc i p hp 5 _ (by decide) rfl⟩
      | true => exact ⟨hc i p hp 1 _ (by decide) rfl, hc i p hp 2 _ (by decide) rfl, hc i p hp 3 _ (by decide) rfl, hc i p hp 4 _ (by decide) rfl, hc i p hp 5 _ (by decide) rfl, hc i p hp 6 _ (by decide) rfl⟩
    · obtain ⟨p, hp, rfl⟩ := hget i x hi
      simp only [hS i p hp]
      exact (hB (hin i p hp)).l
    · obtain ⟨p, hp, rfl⟩ := hget i x hi
      simp only [hS i p hp]
      exact (hB (hin i p hp)).e
  rw [hm] at key
  exact key
theorem Tryd.info_val : (Tryd.prog.info? 26).map (fun i => (i.zero, i.size, i.bytes)) = some (some (.agg #[.int .i64 0, .int .i64 0, .int .u64 0, .string ⟨#[]⟩, .slice none 0 0, .slice none 0 0]), 6, 88) := by kernel_rfl
theorem Tryd.info_ent : (Tryd.prog.info? 50).map (fun i => (i.zero, i.size, i.bytes)) = some (some (.agg #[.string ⟨#[]⟩, .int .i64 0, .int .i64 0, .int .u64 0, .string ⟨#[]⟩, .slice none 0 0, .slice none 0 0]), 7, 104) := by kernel_rfl
theorem cellsT_one (t : Bool) (p : ByteArray × Loc) : ∀ u ∈ cellsT t p, u.oneCell' = true := by
  intro u hu
  cases t with
  | false =>
    simp only [cellsT, Loc.cs, List.mem_cons, List.not_mem_nil, or_false, if_neg (show ¬ (false = true) by decide)] at hu
    rcases hu with rfl | rfl | rfl | rfl | rfl | rfl <;> rfl
  | true =>
    simp only [cellsT, Loc.cs, List.mem_cons, List.not_mem_nil, or_false, if_true] at hu
    rcases hu with rfl | rfl | rfl | rfl | rfl | rfl | rfl <;> rfl
/-- an element is put behind the others, within a region that draws its order -/
theorem step_acc {t : Bool} {e ti : TypeId} {z : Value} {bytes : Nat} (ht : Tryd.prog.underlying ti = some (.slice e)) (hinfo : (Tryd.prog.info? e).map (fun i => (i.zero, i.size, i.bytes)) = some (some z, st t, bytes)) (hzs : z.cells.size = st t) (hby : bytes ≤ 104)
    {ops : Array Oper} {o : Oper} {ac : Act} {K : Act → World → Prop} {Q : Exit → Act → World → Prop} {F : Prop} {w : World} {vb : Nat} {v : Value} {ps : List (ByteArray × Loc)} (hgd : o.guard = none) (s x : Operand)
    (ho : o.op = .call { callee := .builtin .append, args := #[s, x], argTypes := #[ti, ti] }) (h : Acc w vb t e v ps) (hb : vb + 1 ≤ w.heap.size) (p : ByteArray × Loc) (hp : VAt w (fun b => vb < b ∧ v.ownBlock ≠ some b) p.2) (hk : p.1.size ≤ 140737488351232)
    (W : World) (hW : W = w.alloc (.cells (cellsT t p).toArray e)) (hs : ac.eval s = v) (hx : ac.eval x = .slice (some ⟨w.heap.size, 0, none⟩) 1 1) (n : Nat) (hn : ps.length = n) (hl : (n + 1) * bytes ≤ 140737488351232) (h63 : n ≤ 10000000000000)
    (hK : ∀ ao c w', Acc w' vb t e (.slice ao (n + 1) c) (ps ++ [p]) → w.grownBy w' v.ownBlock → K (ac.put o.dst (.slice ao (n + 1) c)) w') :
    if Region.wanted o (yielded ops ac.tmps) = true then Oper.wp Tryd.prog o ac W K Q else F := by
  subst hW
  subst hn
  obtain ⟨i0, hi, hz0, hz1, hz2⟩ := info_parts hinfo
  have hw : Region.wanted o (yielded ops ac.tmps) = true := by simp [Region.wanted, hgd]
  rw [if_pos hw]
  have hst : 0 < st t := by cases t <;> decide
  obtain ⟨v', w', hr, ho2, hg, hm, hnn⟩ := run_append_moved (P := Tryd.prog) (w.alloc (.cells (cellsT t p).toArray e)) (vb + 1) ti o.type e i0 z (st t) bytes ht hi hz0 hz1 hz2 hzs hst v ps.length (ps.flatMap (cellsT t))
    (h.own.alloc _) ⟨w.heap.size, 0, none⟩ 1 1 (cellsT t p) (by rw [cellsT_len, Nat.one_mul])
    (fun j u hj => by
      rw [Addr.add_lit]
      have := World.cell?_alloc_mark w (cellsT t p).toArray e (0, 0) (0 + j)
      rw [this]; simpa using hj)
    (cellsT_one t p) (Nat.le_trans hl (by decide)) (by unfold maxLen; omega) (by simp; omega)
  have hg' := grown_alloc' (.cells (cellsT t p).toArray e) hg
  have hm' : Moved v v' w.heap.size := by
    rcases hm with hm | ⟨g, hm, hgl⟩
    · exact .inl hm
    · exact .inr ⟨g, hm, by simp at hgl; omega⟩
  have hacc := h.push hp hk ho2 hg' hm'
  obtain ⟨ao, c, rfl⟩ := own_form ho2
  unfold Oper.wp execOp
  simp only [ho, resolve, invoke, builtin, Sem.run_bind, Sem.run_pure, Result.andThen_ok, List.map_toArray, List.map_cons, List.map_nil, hs, hx, hr]
  exact hK ao c w' hacc hg'
theorem Acc.above {W : World} {vb : Nat} {t : Bool} {e : TypeId} {v : Value} {ps : List (ByteArray × Loc)} (h : Acc W vb t e v ps) : ∀ b, v.ownBlock = some b → vb < b := fun b hb => (h.own.lt b hb).1
/-- a value that was made since -/
theorem Acc.fresh {W W' : World} {vb : Nat} {t : Bool} {e : TypeId} {v : Value} {ps : List (ByteArray × Loc)} {q : Loc} (h : Acc W vb t e v ps) (hv : vb < W.heap.size) (hq : VAt W' (fun b => W.heap.size ≤ b) q) : VAt W' (fun b => vb < b ∧ v.ownBlock ≠ some b) q :=
  hq.weak (fun b hb _ => ⟨by omega, fun e => by have := (h.own.lt b e).2; omega⟩)
end Go.Proofs.YtpjigecmnefnhaaDoor
