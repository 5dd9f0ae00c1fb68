/-
  The map of how far each version is: a map[int]int that the call made, read as a function. No conditions.
-/
import Derived.Test.YtgcpnckdcdhflaaQueue
import Derived.Test.YtgcpnckdcdhflaaLk
import Derived.Maps.OwnSet
namespace Go.Proofs.Ytgcpnckdcdhflaa
open Go.RowKit Go.Maps Gx

theorem law_int : Keyed Try.prog 3 := int_keyed Try.underlying3
theorem zero_int (w : World) : (zeroValue 3).run Try.prog w = .ok (.int .i64 0) w := by kernel_rfl

/-- block b is a map of at most n entries that says f -/
def FarMap (w : World) (b : Nat) (f : Int → Option Nat) (n : Nat) : Prop :=
  ∃ D : DataW Unit, w.ownsMap Try.prog 3 (plainElem Try.prog 3) b n D ∧ ∀ x, (Lit.int .i64 x).wf = true →
    Maps.has D (.int .i64 x) = (f x).isSome ∧ D.atKey (.int .i64 x) (.lit (.int .i64 0)) = .lit (.int .i64 (((f x).getD 0 : Nat) : Int))

theorem FarMap.kept {w w' : World} {b : Nat} {f : Int → Option Nat} {n : Nat} {row : Option Nat} (h : FarMap w b f n) (hg : w.grownBy w' row) (hne : some b ≠ row) : FarMap w' b f n :=
  let ⟨D, h1, h2⟩ := h
  ⟨D, h1.kept hg hne, h2⟩
theorem FarMap.alloc {w : World} {b : Nat} {f : Int → Option Nat} {n : Nat} (h : FarMap w b f n) (o : Obj) : FarMap (w.alloc o) b f n :=
  let ⟨D, h1, h2⟩ := h
  ⟨D, h1.alloc o, h2⟩
theorem FarMap.drew {w : World} {b : Nat} {f : Int → Option Nat} {n : Nat} (h : FarMap w b f n) : FarMap w.drew b f n := h
theorem FarMap.drewN {w : World} {b : Nat} {f : Int → Option Nat} {n : Nat} (h : FarMap w b f n) (k : Nat) : FarMap (w.drewN k) b f n := h
theorem FarMap.setCell {w : World} {b : Nat} {f : Int → Option Nat} {n : Nat} (h : FarMap w b f n) {a : Addr} (ha : b ≠ a.block) (u : Value) : FarMap (w.setCell a u) b f n :=
  let ⟨D, h1, h2⟩ := h
  ⟨D, h1.setCell ha u, h2⟩
theorem FarMap.lt {w : World} {b : Nat} {f : Int → Option Nat} {n : Nat} (h : FarMap w b f n) : b < w.heap.size := let ⟨_, h1, _⟩ := h; h1.lt
theorem FarMap.keep {w w' : World} {b : Nat} {f : Int → Option Nat} {n : Nat} (h : FarMap w b f n) (hb : Below w.heap.size w w') : FarMap w' b f n := by
  obtain ⟨D, ⟨es, clock, h1, h2⟩, h3⟩ := h
  exact ⟨D, ⟨es, clock, (hb.block b (Array.getElem?_eq_some_iff.1 h1).1).trans h1, h2⟩, h3⟩

theorem FarMap.made (w : World) : FarMap (w.alloc (.map #[] 0)) w.heap.size (fun _ => none) 0 :=
  ⟨.map [], World.ownsMap_made _ _ _ _, fun x hx => ⟨rfl, rfl⟩⟩

theorem FarMap.look {w : World} {b : Nat} {f : Int → Option Nat} {n : Nat} (h : FarMap w b f n) (x : Int) (hx : (Lit.int .i64 x).wf = true) :
    (Instr.lookup 35 (.map (some b)) (.int .i64 x) false).run Try.prog w = .ok (.int .i64 (((f x).getD 0 : Nat) : Int)) w := by
  obtain ⟨D, h1, h2⟩ := h
  obtain ⟨c, hr, hc, -⟩ := h1.lookup_int law_int Try.underlying35 Try.underlying3 (zero_int w) (keyOf_int_mk Try.underlying3 hx)
  rw [hr]
  rw [(h2 x hx).2] at hc
  cases hc
  rfl

theorem FarMap.look_ok {w : World} {b : Nat} {f : Int → Option Nat} {n : Nat} (h : FarMap w b f n) (x : Int) (hx : (Lit.int .i64 x).wf = true) :
    (Instr.lookup 35 (.map (some b)) (.int .i64 x) true).run Try.prog w = .ok (.tuple #[.int .i64 (((f x).getD 0 : Nat) : Int), .bool (f x).isSome]) w := by
  obtain ⟨D, h1, h2⟩ := h
  have hw0 : (Lit.int .i64 0).wf = true := by decide
  obtain ⟨v, ps, hr, hv⟩ := h1.look_ok law_int Try.underlying35 (zero_int w) (plainElem_int Try.underlying3 hw0) (keyOf_int_mk Try.underlying3 hx)
  obtain ⟨c, rfl, hc, -⟩ := plainElem_int_inv Try.underlying3 hv
  rw [hr, (h2 x hx).1]
  rw [(h2 x hx).2] at hc
  cases hc
  rfl

theorem wpList_far_put (w : World) {ops : Array Oper} {rest : List Oper} {o : Oper} {a : Act} {Q : Exit → Act → World → Prop}
    (hg : o.guard = none) (m x v : Operand) (hop : o.op = Op.mapUpdate 35 m x v ∨ o.op = Op.insert 35 m x v)
    (b n : Nat) (f : Int → Option Nat) (hm : a.eval m = .map (some b)) (h : FarMap w b f n) (hn : n < maxLen) (k : Int) (d : Nat) (hx : a.eval x = .int .i64 k) (hv : a.eval v = .int .i64 (d : Int)) (hk : (Lit.int .i64 k).wf = true) (hd : d ≤ 9223372036854775807)
    (hK : ∀ w', FarMap w' b (put1 f k d) (n + 1) → w.grownBy w' (some b) → wpList Try.prog ops Q rest (a.put o.dst undef) w') :
    wpList Try.prog ops Q (o :: rest) a w := by
  refine wpList_plain hg fun K' hK' => ?_
  obtain ⟨D, h1, h2⟩ := h
  have hwd : (Lit.int .i64 (d : Int)).wf = true := by simp [Lit.wf, IntKind.min, IntKind.max, IntKind.signed, IntKind.bits]; omega
  obtain ⟨w', hrun, r1, r2⟩ := h1.update law_int Try.underlying35 hn (keyOf_int_mk Try.underlying3 hk) (plainElem_int Try.underlying3 hwd)
  have hF : FarMap w' b (put1 f k d) (n + 1) := by
    refine ⟨_, r1, fun y hy => ?_⟩
    by_cases hyk : y = k
    · subst hyk
      rw [has_put_same h1.isMap (by trivial), atKey_put_same h1.isMap (by trivial)]
      simp [put1]
    · have hne : (Lit.int .i64 y) ≠ (Lit.int .i64 k) := by intro e; cases e; exact hyk rfl
      rw [has_put_other hne, atKey_put_other hne, (h2 y hy).1, (h2 y hy).2]
      unfold put1
      rw [if_neg hyk]
      exact ⟨rfl, rfl⟩
  unfold Oper.wp
  rcases hop with hop | hop
  · simp [execOp, hop, hm, hx, hv, hrun, Result.andThen]
    exact hK' _ _ (hK w' hF r2)
  · simp [execOp, hop, hm, hx, hv, hrun, Result.andThen]
    exact hK' _ _ (hK w' hF r2)
end Go.Proofs.Ytgcpnckdcdhflaa
