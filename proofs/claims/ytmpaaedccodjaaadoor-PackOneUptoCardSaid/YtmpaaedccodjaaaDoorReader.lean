/-
  The contracts of the reader's byte, more and word. No conditions.
-/
import Derived.Test.YtmpaaedccodjaaaDoorRd
import Derived.Test.YtmpaaedccodjaaaDoorVal
import Derived.Test.YtmpaaedccodjaaaDoorProg
import Derived.Deep.DeepCutAuto
import Derived.Deep.CutBlock
import Derived.Deep.DeepFit
import Derived.Outline
import Derived.WalkLawsBesides
import Derived.Laws.BitsAllLaws
namespace Go.Proofs.YtmpaaedccodjaaaDoor
open Go.RowKit Gx
set_option maxRecDepth 100000

/-- a reader at R: bytes l are left; whether it is bad -/
structure RdS (n₀ : Nat) (W : World) (R : Nat) (l : List Int) (bad : Bool) : Prop where
  ex : ∃ ad c, W.heap[R]? = some (.cells #[.slice ad l.length c, .bool bad] 57) ∧ Rd .u8 W ad c l ∧ (∀ a, ad = some a → 0 < l.length → a.block < n₀ ∧ a.block ≠ R)
  lt : R < n₀
  n0 : n₀ ≤ W.heap.size
theorem two_set {w : World} {b : Nat} {x y : Value} {ty : TypeId} (h : w.heap[b]? = some (.cells #[x, y] ty)) (u : Value) :
    (w.setCell ⟨b, 0, none⟩ u).heap[b]? = some (.cells #[u, y] ty) ∧ (w.setCell ⟨b, 1, none⟩ u).heap[b]? = some (.cells #[x, u] ty) ∧ w.cell? ⟨b, 0, none⟩ = some x ∧ w.cell? ⟨b, 1, none⟩ = some y ∧ (∀ j, w.frozen? ⟨b, j, none⟩ = false) := by
  have hs : ∀ (j : Nat) (q : Value), (w.setCell ⟨b, j, none⟩ q).heap[b]? = some (.cells (#[x, y].setIfInBounds j q) ty) := fun j q => by
    simp [World.setCell, Array.getElem?_modify, h]
  refine ⟨by rw [hs 0]; rfl, by rw [hs 1]; rfl, by simp [World.cell?, h], by simp [World.cell?, h], fun j => by simp [World.frozen?, h]⟩
theorem grown_cell (w : World) (b j : Nat) (v : Value) : w.grownBy (w.setCell ⟨b, j, none⟩ v) (some b) :=
  ⟨rfl, rfl, rfl, by simp [World.setCell], fun k _ hk => Below.heap_setCell _ _ _ k (fun e => hk (by rw [e]))⟩
variable {n₀ : Nat} {W W' : World} {R : Nat} {l : List Int} {bad : Bool}
/-- where other blocks were written -/
theorem RdS.grow {row : Option Nat} (h : RdS n₀ W R l bad) (hg : W.grownBy W' row) (hr : ∀ k, row = some k → n₀ ≤ k) : RdS n₀ W' R l bad := by
  obtain ⟨⟨ad, c, h1, h2, h3⟩, h4, h5⟩ := h
  refine ⟨⟨ad, c, (hg.block R (by omega) (fun e => by have := hr R e.symm; omega)).trans h1, h2.grown hg (fun a ha hp e => ?_), h3⟩, h4, Nat.le_trans h5 hg.size⟩
  have := hr _ e.symm
  have := (h3 a ha hp).1
  omega
theorem RdS.keep (h : RdS n₀ W R l bad) (hb : Below W.heap.size W W') : RdS n₀ W' R l bad :=
  h.grow (row := none) ⟨hb.os, hb.tape, hb.output, hb.size, fun k hk _ => hb.block k hk⟩ (fun k e => by cases e)
theorem RdS.cells (h : RdS n₀ W R l bad) : ∃ ad c, W.cell? ⟨R, 0, none⟩ = some (.slice ad l.length c) ∧ W.cell? ⟨R, 1, none⟩ = some (.bool bad) ∧ (∀ j, W.frozen? ⟨R, j, none⟩ = false) := by
  obtain ⟨ad, c, h1, h2, h3⟩ := h.ex
  obtain ⟨-, -, a, b, f⟩ := two_set h1 (.bool true)
  exact ⟨ad, c, a, b, f⟩
/-- it is bad from now on -/
theorem RdS.setBad (h : RdS n₀ W R l bad) (b : Bool) : RdS n₀ (W.setCell ⟨R, 1, none⟩ (.bool b)) R l b := by
  obtain ⟨⟨ad, c, h1, h2, h3⟩, h4, h5⟩ := h
  refine ⟨⟨ad, c, (two_set h1 _).2.1, h2.grown (grown_cell W R 1 _) (fun a ha hp e => (h3 a ha hp).2 (Option.some.inj e)), h3⟩, h4, by simpa [World.setCell] using h5⟩
def rbyte : List Int → Bool → Int × List Int × Bool
  | [], _ => (0, [], true)
  | c :: l, bad => (c, l, bad)
def RPost (n₀ R : Nat) (r : Int × List Int × Bool) (w : World) (e : Ending) (w' : World) : Prop := e = .returned (.int .u8 r.1) ∧ RdS n₀ w' R r.2.1 r.2.2 ∧ w.grownBy w' (some R)

set_option maxHeartbeats 4000000 in
theorem byte_any (n₀ R : Nat) (l : List Int) (bad : Bool) (w : World) (h : RdS n₀ w R l bad) : Calls Tryd.prog 38 #[.pointer (some ⟨R, 0, none⟩)] w (RPost n₀ R (rbyte l bad) w) := by
  have h0 := h
  obtain ⟨⟨ad, c, h1, h2, h3⟩, h4, h5⟩ := h
  have hRl : R < w.heap.size := by omega
  obtain ⟨-, -, c0, c1, fz⟩ := two_set h1 (.bool true)
  have f0 := fz 0
  have f1 := fz 1
  have H0 := Lib.hid h0
  have H1 := Lib.hid h1
  have H2 := Lib.hid h2
  have H3 := Lib.hid h3
  clear h0 h1 h2 h3 fz h4
  cases l with
  | nil =>
    simp only [List.length_nil] at c0
    go_enter Tryd.func38, Tryd.ntmps38
    go_wp2
    try go_ret
    exact ⟨rfl, H0.out.setBad true, grown_cell w R 1 _⟩
  | cons x l =>
    obtain ⟨b, off, rfl, hbl, hcs⟩ := H2.out.addr (by simp)
    have hx : w.cell? ⟨b, off, none⟩ = some (.int .u8 x) := by simpa using hcs 0 (by simp)
    have hwx : (Lit.int .u8 x).wf = true := H2.out.wf x (by simp)
    have hnc := H2.out.ncap
    have hc63 := H2.out.cap63
    rw [List.length_cons] at c0 hnc
    obtain ⟨hb1, hb2⟩ := H3.out _ rfl (by simp)
    obtain ⟨m, hm⟩ : ∃ m, l.length = m := ⟨_, rfl⟩
    rw [hm] at c0 hnc
    have HM := Lib.hid hm
    have HCS := Lib.hid hcs
    have hm2 : m + 1 ≤ 9223372036854775807 := by omega
    clear hm hcs
    have t1 : (((m + 1 : Nat) : Int) == 0) = false := by simp; omega
    by_cases hc1 : c = 1
    · subst hc1
      obtain rfl : m = 0 := by omega
      have hl : l = [] := List.eq_nil_of_length_eq_zero HM.out
      go_enter Tryd.func38, Tryd.ntmps38
      go_wp2
      try go_ret
      subst hl
      refine ⟨rfl, ⟨⟨some ⟨b, off, none⟩, 0, (two_set H1.out _).1, Rd.nil _ _ _ _ (by decide) (fun e => by cases e), fun a _ hp => by simp [rbyte] at hp⟩, H0.out.lt, by simpa [World.setCell] using H0.out.n0⟩, grown_cell w R 0 _⟩
    · have hc2 : 1 < c := by omega
      go_enter Tryd.func38, Tryd.ntmps38
      go_wp2
      try go_ret
      refine ⟨rfl, ⟨⟨some ⟨b, off + 1, none⟩, c - 1, ?_, ?_, fun a ha _ => by cases ha; exact ⟨hb1, hb2⟩⟩, H0.out.lt, by simpa [World.setCell] using H0.out.n0⟩, grown_cell w R 0 _⟩
      · have := (two_set H1.out (.slice (some ⟨b, off + 1, none⟩) m (c - 1))).1
        rw [← HM.out] at this ⊢
        exact this
      · refine ⟨by show l.length ≤ c - 1; rw [HM.out]; omega, by omega, fun y hy => H2.out.wf y (by simp; exact .inr hy), (fun e => by cases e), fun a ha hp => ?_⟩
        cases ha
        refine ⟨rfl, by simpa [World.setCell] using hbl, fun j hj => ?_⟩
        have hj' : j < l.length := by simpa [rbyte] using hj
        have h7 := HCS.out (j + 1) (by simpa using hj')
        rw [show off + (j + 1) = off + 1 + j by omega] at h7
        have h8 := (grown_cell w R 0 (.slice (some ⟨b, off + 1, none⟩) m (c - 1))).cell (a := ⟨b, off + 1 + j, none⟩) h7 (fun e => hb2 (Option.some.inj e))
        rw [h8]
        simp [rbyte]
end Go.Proofs.YtmpaaedccodjaaaDoor
