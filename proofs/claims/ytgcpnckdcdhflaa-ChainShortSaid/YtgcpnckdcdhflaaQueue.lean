/-
  A slice of one-cell elements that the call owns, at whatever place of its row: a queue, from which the first is dropped and to which one is appended. No conditions.
-/
import Derived.Test.YtgcpnckdcdhflaaGx
import Derived.ArgAppend
import Derived.Deep.AppendLies
namespace Go.Proofs.Ytgcpnckdcdhflaa.Gx
open Go Go.RowKit

def OwnQ (w : World) (base : Nat) (v : Value) (xs : List Value) : Prop :=
  ∃ g off cap, v = .slice (some ⟨g, off, none⟩) xs.length cap ∧ base ≤ g ∧ g < w.heap.size ∧ xs.length ≤ cap ∧ cap ≤ maxLen ∧
    (∀ j, j < cap → (w.cell? ⟨g, off + j, none⟩).isSome = true ∧ w.frozen? ⟨g, off + j, none⟩ = false) ∧ ∀ j u, xs[j]? = some u → w.cell? ⟨g, off + j, none⟩ = some u

theorem OwnQ.kept {w w' : World} {base : Nat} {v : Value} {xs : List Value} {row : Option Nat} (h : OwnQ w base v xs) (hg : w.grownBy w' row) (hne : v.ownBlock ≠ row) : OwnQ w' base v xs := by
  obtain ⟨g, off, cap, rfl, h1, h2, h3, h4, h5, h6⟩ := h
  have hk : ∀ j, w'.cell? ⟨g, off + j, none⟩ = w.cell? ⟨g, off + j, none⟩ := fun j => hg.cell_far ⟨g, off + j, none⟩ h2 hne
  refine ⟨g, off, cap, rfl, h1, Nat.lt_of_lt_of_le h2 hg.size, h3, h4, fun j hj => ?_, fun j u hu => ?_⟩
  · rw [hk]
    exact ⟨(h5 j hj).1, by rw [hg.frozen_far ⟨g, off + j, none⟩ h2 hne]; exact (h5 j hj).2⟩
  · rw [hk]; exact h6 j u hu

theorem OwnQ.lt {w : World} {base : Nat} {v : Value} {xs : List Value} (h : OwnQ w base v xs) {k : Nat} (hk : v.ownBlock = some k) : base ≤ k ∧ k < w.heap.size := by
  obtain ⟨g, off, cap, rfl, h1, h2, -⟩ := h
  cases hk
  exact ⟨h1, h2⟩

theorem OwnQ.alloc {w : World} {base : Nat} {v : Value} {xs : List Value} (h : OwnQ w base v xs) (o : Obj) : OwnQ (w.alloc o) base v xs :=
  h.kept (World.grownBy_alloc w o none) (by obtain ⟨g, off, cap, rfl, -⟩ := h; simp [Value.ownBlock])

theorem OwnQ.of_own {w : World} {base : Nat} {e : TypeId} {v : Value} {n : Nat} {xs : List Value} (h : w.ownsRow base e 1 v n xs) (hn : 0 < n) : OwnQ w base v xs := by
  have hl : xs.length = n := by simpa using h.1
  rcases h.2 with ⟨_, h0⟩ | ⟨g, cap, cur, rfl, hb, hg, hnc, hcm, hcs, ht⟩
  · omega
  · have hlt := (Array.getElem?_eq_some_iff.1 hg).1
    refine ⟨g, 0, cap, by rw [hl], hb, hlt, by omega, hcm, fun j hj => ⟨?_, frozen_of_row w g _ cur e hg⟩, fun j u hu => ?_⟩
    · rw [cell_of_row w g _ cur e (0, 0) hg]
      have : 0 + j < cur.size := by rw [hcs]; omega
      simp only [Nat.zero_add] at this ⊢
      simp [this]
    · have := h.cells (g := g) rfl j u hu
      rwa [Addr.add_lit] at this

theorem OwnQ.one (w : World) (base : Nat) (e : TypeId) (u : Value) (hb : base ≤ w.heap.size) : OwnQ (w.alloc (.cells #[u] e)) base (.slice (some ⟨w.heap.size, 0, none⟩) 1 1) [u] := by
  refine ⟨w.heap.size, 0, 1, rfl, hb, by simp, Nat.le_refl _, by decide, fun j hj => ?_, fun j x hx => ?_⟩
  · obtain rfl : j = 0 := by omega
    refine ⟨?_, World.frozen?_alloc_new w _ _ _⟩
    have := World.cell?_alloc_mark w #[u] e (0, 0) (0 + 0)
    rw [this]; rfl
  · have := World.cell?_alloc_mark w #[u] e (0, 0) (0 + j)
    rw [this]
    simpa using hx

/-- without the first -/
theorem OwnQ.tail {w : World} {base g off n cap : Nat} {x : Value} {xs : List Value} (h : OwnQ w base (.slice (some ⟨g, off, none⟩) n cap) (x :: xs)) : OwnQ w base (.slice (some ⟨g, off + 1, none⟩) xs.length (cap - 1)) xs := by
  obtain ⟨g', off', cap', e, h1, h2, h3, h4, h5, h6⟩ := h
  cases e
  rw [List.length_cons] at h3
  refine ⟨g, off + 1, cap - 1, rfl, h1, h2, by omega, by omega, fun j hj => ?_, fun j u hu => ?_⟩
  · rw [Nat.add_assoc, Nat.add_comm 1 j]; exact h5 (j + 1) (by omega)
  · rw [Nat.add_assoc, Nat.add_comm 1 j]; exact h6 (j + 1) u (by simpa using hu)

theorem grownBy_set (w : World) (b i : Nat) (v : Value) : w.grownBy (w.setCell ⟨b, i, none⟩ v) (some b) :=
  ⟨rfl, rfl, rfl, by simp [World.setCell], fun k _ hk => Below.heap_setCell _ _ _ _ (fun e => hk (by simp [e]))⟩

section
variable {P : Program}

/-- 'append(q, x)': the element lies in a new block of its own, laid just before. -/
theorem wpList_push_q (w : World) {ops : Array Oper} {rest : List Oper} {o : Oper} {ac : Act} {Q : Exit → Act → World → Prop} (hgd : o.guard = none) (s x : Operand) (t : TypeId)
    (ho : o.op = .call { callee := .builtin .append, args := #[s, x], argTypes := #[t, t] })
    (base : Nat) (e : TypeId) (z : Value) (bytes : Nat) (ht : P.underlying t = some (.slice e))
    (hinfo : (P.info? e).map (fun i => (i.zero, i.size, i.bytes)) = some (some z, 1, bytes)) (hzs : z.cells.size = 1)
    (v : Value) (xs : List Value) (u : Value) (o' : Obj) (ho' : o' = .cells #[u] e) (hs : ac.eval s = v) (hown : OwnQ w base v xs)
    (hx : ac.eval x = .slice (some ⟨w.heap.size, 0, none⟩) 1 1) (h1 : u.oneCell' = true)
    (hbytes : (xs.length + 1) * bytes ≤ 140737488355328) (h63 : xs.length + 1 ≤ maxLen) (hbase : base ≤ w.heap.size)
    (h : ∀ v' w', OwnQ w' base v' (xs ++ [u]) → w.grownBy w' v.ownBlock → Moved v v' w.heap.size → (∃ a c, v' = .slice a (xs.length + 1) c) → wpList P ops Q rest (ac.put o.dst v') w') :
    wpList P ops Q (o :: rest) ac (w.alloc o') := by
  subst ho'
  obtain ⟨i, hi, hz0, hz1, hz2⟩ := info_parts hinfo
  have hq := hown.alloc (.cells #[u] e)
  obtain ⟨g, off, cap, rfl, c1, c2, c3, c4, c5, c6⟩ := hown
  obtain ⟨g', off', cap', ev, d1, d2, d3, d4, d5, d6⟩ := hq
  cases ev
  have hnews : ∀ j y, ([u] : List Value)[j]? = some y → (w.alloc (.cells #[u] e)).cell? ((⟨w.heap.size, 0, none⟩ : Addr).add j) = some y := by
    intro j y hj
    rw [Addr.add_lit]
    have := World.cell?_alloc_mark w #[u] e (0, 0) (0 + j)
    rw [this]; simpa using hj
  refine wpList_append_arg (P := P) (w.alloc (.cells #[u] e)) hgd s x t ho e i z 1 bytes ht hi hz0 hz1 hz2 hzs (by decide) g off xs.length cap xs hs (by simp) d6 ⟨w.heap.size, 0, none⟩ 1 1 [u] hx rfl
    hnews (by simpa using h1) (fun hroom j hj => ?_) (by omega) hbytes (fun hroom => ?_) (fun hgrow v' w' ho2 hg => ?_)
  · simp only [List.length_cons, List.length_nil, Nat.zero_add] at hj
    obtain rfl : j = 0 := by omega
    have := d5 xs.length (by omega)
    simpa using this
  · have hgr : (w.alloc (.cells #[u] e)).grownBy (((w.alloc (.cells #[u] e))).setCells g (off + xs.length) [u]) (some g) := grownBy_set _ _ _ _
    have hgw : w.grownBy (((w.alloc (.cells #[u] e))).setCells g (off + xs.length) [u]) (some g) := by
      refine ⟨hgr.os, hgr.tape, hgr.output, Nat.le_trans (by simp) hgr.size, fun k hk hne => ?_⟩
      rw [hgr.block k (by simp; omega) hne]
      exact heap_alloc_old w _ hk
    have hu := d5 xs.length (by omega)
    rw [Nat.mul_one]
    refine h _ _ ⟨g, off, cap, by simp, d1, Nat.lt_of_lt_of_le d2 hgr.size, by simp; omega, d4, fun j hj => ?_, fun j y hy => ?_⟩ hgw (.inl rfl) ⟨_, _, rfl⟩
    · refine ⟨?_, by rw [World.frozen?_setCells]; exact (d5 j hj).2⟩
      have hne : j ≠ xs.length → (⟨g, off + xs.length, none⟩ : Addr) ≠ ⟨g, off + j, none⟩ := by intro h e; simp at e; try omega
      by_cases hjx : j = xs.length
      · subst hjx
        show (World.cell? (World.setCell _ _ _) _).isSome = true
        rw [World.cell?_setCell_same' _ _ _ hu.1]; rfl
      · show (World.cell? (World.setCell _ _ _) _).isSome = true
        rw [World.cell?_setCell_other _ _ _ _ (hne hjx)]
        exact (d5 j hj).1
    · have hne : j ≠ xs.length → (⟨g, off + xs.length, none⟩ : Addr) ≠ ⟨g, off + j, none⟩ := by intro h e; simp at e; try omega
      by_cases hjx : j = xs.length
      · subst hjx
        show World.cell? (World.setCell _ _ _) _ = _
        rw [World.cell?_setCell_same' _ _ _ hu.1]
        simpa using hy
      · show World.cell? (World.setCell _ _ _) _ = _
        rw [World.cell?_setCell_other _ _ _ _ (hne hjx)]
        refine d6 j y ?_
        rw [List.getElem?_append] at hy
        split at hy
        · exact hy
        · rename_i hlt
          have : j - xs.length ≠ 0 := by omega
          obtain ⟨k, hk⟩ : ∃ k, j - xs.length = k + 1 := ⟨j - xs.length - 1, by omega⟩
          rw [hk] at hy
          simp at hy
  · have hgw : w.grownBy w' (some g) := by
      refine ⟨hg.os, hg.tape, hg.output, Nat.le_trans (by simp) hg.size, fun k hk hne => ?_⟩
      rw [hg.block k (by simp; omega) (by simp)]
      exact heap_alloc_old w _ hk
    have hq2 := OwnQ.of_own ho2 (by omega)
    obtain ⟨g2, off2, cap2, rfl, e1, e2, e3, e4, e5, e6⟩ := hq2
    refine h _ w' ⟨g2, off2, cap2, rfl, by simp at e1; omega, e2, e3, e4, e5, e6⟩ hgw (.inr ⟨g2, rfl, by simp at e1; omega⟩) ⟨some ⟨g2, off2, none⟩, cap2, by simp⟩
end
end Go.Proofs.Ytgcpnckdcdhflaa.Gx
