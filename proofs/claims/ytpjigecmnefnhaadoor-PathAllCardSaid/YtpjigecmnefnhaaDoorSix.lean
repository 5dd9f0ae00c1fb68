/-
  Blocks of six cells; what a call leaves alone. No conditions.
-/
import Derived.Test.YtpjigecmnefnhaaDoorAccV
namespace Go.Proofs.YtpjigecmnefnhaaDoor
open Go.RowKit Gx

theorem grown_none {W W' : World} (hb : Below W.heap.size W W') : W.grownBy W' none := ⟨hb.os, hb.tape, hb.output, hb.size, fun i hi _ => hb.block i hi⟩
theorem grown_cell (w : World) (b j : Nat) (v : Value) : w.grownBy (w.setCell ⟨b, j, none⟩ v) (some b) :=
  ⟨rfl, rfl, rfl, by simp [World.setCell], fun k _ hk => Below.heap_setCell _ _ _ k (fun e => hk (by rw [e]))⟩
/-- six cells are written -/
theorem six_store {w : World} {b : Nat} {ty : TypeId} {a0 a1 a2 a3 a4 a5 : Value} (h : w.heap[b]? = some (.cells #[a0, a1, a2, a3, a4, a5] ty)) (j : Nat) (u : Value) : (w.setCell ⟨b, j, none⟩ u).heap[b]? = some (.cells (#[a0, a1, a2, a3, a4, a5].setIfInBounds j u) ty) := by
  simp [World.setCell, Array.getElem?_modify, h]
theorem six_cells {w : World} {b : Nat} {ty : TypeId} {a0 a1 a2 a3 a4 a5 : Value} (h : w.heap[b]? = some (.cells #[a0, a1, a2, a3, a4, a5] ty)) : w.cell? ⟨b, 0, none⟩ = some a0 ∧ w.cell? ⟨b, 1, none⟩ = some a1 ∧ w.cell? ⟨b, 2, none⟩ = some a2 ∧ w.cell? ⟨b, 3, none⟩ = some a3 ∧ w.cell? ⟨b, 4, none⟩ = some a4 ∧ w.cell? ⟨b, 5, none⟩ = some a5 ∧ (∀ j, w.frozen? ⟨b, j, none⟩ = false) :=
  ⟨by simp [World.cell?, h], by simp [World.cell?, h], by simp [World.cell?, h], by simp [World.cell?, h], by simp [World.cell?, h], by simp [World.cell?, h], fun j => by simp [World.frozen?, h]⟩
theorem two_cells {w : World} {b : Nat} {ty : TypeId} {a0 a1 : Value} (h : w.heap[b]? = some (.cells #[a0, a1] ty)) : w.cell? ⟨b, 0, none⟩ = some a0 ∧ w.cell? ⟨b, 1, none⟩ = some a1 :=
  ⟨by simp [World.cell?, h], by simp [World.cell?, h]⟩
theorem seven_cells {w : World} {b : Nat} {ty : TypeId} {a0 a1 a2 a3 a4 a5 a6 : Value} (h : w.heap[b]? = some (.cells #[a0, a1, a2, a3, a4, a5, a6] ty)) : w.cell? ⟨b, 0, none⟩ = some a0 ∧ w.cell? ⟨b, 1, none⟩ = some a1 ∧ w.cell? ⟨b, 2, none⟩ = some a2 ∧ w.cell? ⟨b, 3, none⟩ = some a3 ∧ w.cell? ⟨b, 4, none⟩ = some a4 ∧ w.cell? ⟨b, 5, none⟩ = some a5 ∧ w.cell? ⟨b, 6, none⟩ = some a6 :=
  ⟨by simp [World.cell?, h], by simp [World.cell?, h], by simp [World.cell?, h], by simp [World.cell?, h], by simp [World.cell?, h], by simp [World.cell?, h], by simp [World.cell?, h]⟩
theorem six_all {W : World} {b : Nat} {ty : TypeId} {a0 a1 a2 a3 a4 a5 : Value} (h : W.heap[b]? = some (.cells #[a0, a1, a2, a3, a4, a5] ty)) (u0 u1 u2 u3 u4 u5 : Value) :
    ∃ W9, W9 = (((((W.setCell ⟨b, 0, none⟩ u0).setCell ⟨b, 1, none⟩ u1).setCell ⟨b, 2, none⟩ u2).setCell ⟨b, 3, none⟩ u3).setCell ⟨b, 4, none⟩ u4).setCell ⟨b, 5, none⟩ u5 ∧
      W9.heap[b]? = some (.cells #[u0, u1, u2, u3, u4, u5] ty) ∧ (∀ c, c ≠ b → W9.heap[c]? = W.heap[c]?) ∧ W.heap.size ≤ W9.heap.size ∧
      (∀ B w, Below B w W → B ≤ b → Below B w W9) ∧ ∀ B q, VAt W B q → ¬ B b → VAt W9 B q := by
  have h0 : (W.setCell ⟨b, 0, none⟩ u0).heap[b]? = some (.cells #[u0, a1, a2, a3, a4, a5] ty) := six_store h 0 u0
  have h1 : ((W.setCell ⟨b, 0, none⟩ u0).setCell ⟨b, 1, none⟩ u1).heap[b]? = some (.cells #[u0, u1, a2, a3, a4, a5] ty) := six_store h0 1 u1
  have h2 : (((W.setCell ⟨b, 0, none⟩ u0).setCell ⟨b, 1, none⟩ u1).setCell ⟨b, 2, none⟩ u2).heap[b]? = some (.cells #[u0, u1, u2, a3, a4, a5] ty) := six_store h1 2 u2
  have h3 : ((((W.setCell ⟨b, 0, none⟩ u0).setCell ⟨b, 1, none⟩ u1).setCell ⟨b, 2, none⟩ u2).setCell ⟨b, 3, none⟩ u3).heap[b]? = some (.cells #[u0, u1, u2, u3, a4, a5] ty) := six_store h2 3 u3
  have h4 : (((((W.setCell ⟨b, 0, none⟩ u0).setCell ⟨b, 1, none⟩ u1).setCell ⟨b, 2, none⟩ u2).setCell ⟨b, 3, none⟩ u3).setCell ⟨b, 4, none⟩ u4).heap[b]? = some (.cells #[u0, u1, u2, u3, u4, a5] ty) := six_store h3 4 u4
  have h5 : ((((((W.setCell ⟨b, 0, none⟩ u0).setCell ⟨b, 1, none⟩ u1).setCell ⟨b, 2, none⟩ u2).setCell ⟨b, 3, none⟩ u3).setCell ⟨b, 4, none⟩ u4).setCell ⟨b, 5, none⟩ u5).heap[b]? = some (.cells #[u0, u1, u2, u3, u4, u5] ty) := six_store h4 5 u5
  have hh : ∀ (B : Nat → Prop), ¬ B b → ∀ b', some b = some b' → ¬ B b' := fun B hn b' e => by cases e; exact hn
  refine ⟨_, rfl, h5, fun c hc => ?_, by simp, fun B w hb hB => (((((hb.setCell hB u0).setCell hB u1).setCell hB u2).setCell hB u3).setCell hB u4).setCell hB u5, fun B q hq hn =>
    (((((hq.grow (grown_cell _ _ 0 u0) (hh B hn)).grow (grown_cell _ _ 1 u1) (hh B hn)).grow (grown_cell _ _ 2 u2) (hh B hn)).grow (grown_cell _ _ 3 u3) (hh B hn)).grow (grown_cell _ _ 4 u4) (hh B hn)).grow (grown_cell _ _ 5 u5) (hh B hn)⟩
  by_cases hl : c < W.heap.size
  · have g : ∀ (X : World) (j : Nat) (u : Value), c < X.heap.size → (X.setCell ⟨b, j, none⟩ u).heap[c]? = X.heap[c]? := fun X j u hx => (grown_cell X b j u).block c hx (fun e => hc (Option.some.inj e))
    have z : ∀ (X : World) (j : Nat) (u : Value), c < X.heap.size → c < (X.setCell ⟨b, j, none⟩ u).heap.size := fun X j u hx => Nat.lt_of_lt_of_le hx (grown_cell X b j u).size
    have l0 := z W 0 u0 hl
    have l1 := z _ 1 u1 l0
    have l2 := z _ 2 u2 l1
    have l3 := z _ 3 u3 l2
    have l4 := z _ 4 u4 l3
    rw [g _ 5 u5 l4, g _ 4 u4 l3, g _ 3 u3 l2, g _ 2 u2 l1, g _ 1 u1 l0, g _ 0 u0 hl]
  · rw [Array.getElem?_eq_none (by simp; omega), Array.getElem?_eq_none (by omega)]
end Go.Proofs.YtpjigecmnefnhaaDoor
