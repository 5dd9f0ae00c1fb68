/-
  Slices of integers that are read: what a walk asks of them, and how they come through calls that write nothing that was there. No conditions.
-/
import Derived.Test.YtpjigecmnefnhaaDoorGx
namespace Go.Proofs.YtpjigecmnefnhaaDoor.Gx
open Go Go.RowKit

/-- the slice 'ad, xs.length, cap' reads as the numbers xs in the world w -/
structure Rd (k : IntKind) (w : World) (ad : Option Addr) (cap : Nat) (xs : List Int) : Prop where
  ncap : xs.length ≤ cap
  cap63 : cap ≤ 9223372036854775807
  wf : ∀ x ∈ xs, (Lit.int k x).wf = true
  none_ : ad = none → cap = 0
  at_ : ∀ a, ad = some a → 0 < xs.length → a.spot = none ∧ a.block < w.heap.size ∧ ∀ j, j < xs.length → w.cell? ⟨a.block, a.off + j, none⟩ = some (.int k (xs.getD j 0))

variable {k : IntKind} {w w' : World} {ad : Option Addr} {cap : Nat} {xs : List Int}

theorem Rd.keep (h : Rd k w ad cap xs) (hb : Below w.heap.size w w') : Rd k w' ad cap xs := by
  refine ⟨h.ncap, h.cap63, h.wf, h.none_, fun a ha hp => ?_⟩
  obtain ⟨h1, h2, h3⟩ := h.at_ a ha hp
  exact ⟨h1, Nat.lt_of_lt_of_le h2 hb.size, fun j hj => (hb.cell (p := ⟨a.block, a.off + j, none⟩) h2).trans (h3 j hj)⟩

theorem Rd.addr (h : Rd k w ad cap xs) (hp : 0 < xs.length) : ∃ b off, ad = some ⟨b, off, none⟩ ∧ b < w.heap.size ∧ ∀ j, j < xs.length → w.cell? ⟨b, off + j, none⟩ = some (.int k (xs.getD j 0)) := by
  cases ad with
  | none => have := h.none_ rfl; have := h.ncap; omega
  | some a =>
    obtain ⟨h1, h2, h3⟩ := h.at_ a rfl hp
    obtain ⟨b, off, spot⟩ := a
    simp only at h1
    subst h1
    exact ⟨b, off, rfl, h2, h3⟩

theorem getD_take (xs : List Int) (m j : Nat) (h : j < m) : (xs.take m).getD j 0 = xs.getD j 0 := by
  simp [List.getD, h]

/-- the first m of them -/
theorem Rd.front (h : Rd k w ad cap xs) (m : Nat) (hm : m ≤ xs.length) : Rd k w ad cap (xs.take m) := by
  have hl : (xs.take m).length = m := by simp; omega
  refine ⟨by rw [hl]; have := h.ncap; omega, h.cap63, fun x hx => h.wf x (List.mem_of_mem_take hx), h.none_, fun a ha hp => ?_⟩
  obtain ⟨h1, h2, h3⟩ := h.at_ a ha (by omega)
  refine ⟨h1, h2, fun j hj => ?_⟩
  rw [h3 j (by omega), getD_take xs m j (by omega)]

/-- none of them -/
theorem Rd.nil (k : IntKind) (w : World) (ad : Option Addr) (cap : Nat) (h1 : cap ≤ 9223372036854775807) (h2 : ad = none → cap = 0) : Rd k w ad cap [] :=
  ⟨by simp, h1, fun x hx => by simp at hx, h2, fun a _ hp => by simp at hp⟩

/-- what came in -/
theorem Rd.row {len : Nat} {zs : List Int} (h : IsRow k w ad len cap zs) : (zs.take len).length = len ∧ Rd k w ad cap (zs.take len) := by
  rcases h with ⟨rfl, rfl, rfl, rfl⟩ | ⟨x, rfl, hl, hm, hz, hc, hw⟩
  · exact ⟨rfl, Rd.nil _ _ _ _ (by omega) (fun _ => rfl)⟩
  · have hlen : (zs.take len).length = len := by simp; omega
    refine ⟨hlen, by omega, by unfold maxLen at hm; omega, fun y hy => hw y (List.mem_of_mem_take hy), fun h => by simp at h, fun a ha hp => ?_⟩
    obtain rfl := Option.some.inj ha
    have h0 := hc 0 (by omega)
    have hspot : x.spot = none := by
      have := World.cell?_spot h0
      simpa [Addr.add] using this
    obtain ⟨b, off, spot⟩ := x
    simp only at hspot
    subst hspot
    refine ⟨rfl, World.block_lt_of_cell? w ⟨b, off, none⟩ (by simpa [Addr.add] using h0), fun j hj => ?_⟩
    have := hc j (by omega)
    rw [Addr.add_lit] at this
    rw [this, getD_take zs len j (by omega)]

/-- what a call has made -/
theorem Rd.own {base : Nat} {e : TypeId} {v : Value} {n : Nat} (h : w.ownsRow base e 1 v n (xs.map (Value.int k))) (hw : ∀ x ∈ xs, (Lit.int k x).wf = true) :
    ∃ ad cap, v = .slice ad xs.length cap ∧ Rd k w ad cap xs := by
  have hn : xs.length = n := by have := h.1; simpa using this
  have hc := fun g => h.cells (g := g)
  rcases h.2 with ⟨rfl, rfl⟩ | ⟨g, cap, cur, rfl, hb, hg, hnc, hcm, _⟩
  · have : xs = [] := List.eq_nil_of_length_eq_zero hn
    subst this
    exact ⟨none, 0, rfl, Rd.nil _ _ _ _ (by omega) (fun _ => rfl)⟩
  · subst hn
    refine ⟨some ⟨g, 0, none⟩, cap, rfl, hnc, by unfold maxLen at hcm; omega, hw, fun h => by simp at h, fun a ha hp => ?_⟩
    obtain rfl := Option.some.inj ha
    refine ⟨rfl, (Array.getElem?_eq_some_iff.1 hg).1, fun j hj => ?_⟩
    have := hc g rfl j (.int k (xs.getD j 0)) (by simp [List.getD, List.getElem?_eq_getElem hj])
    rwa [Addr.add_lit] at this

/-- what a call has made lies in its own memory -/
theorem Rd.own' {base : Nat} {e : TypeId} {v : Value} {n : Nat} (h : w.ownsRow base e 1 v n (xs.map (Value.int k))) (hw : ∀ x ∈ xs, (Lit.int k x).wf = true) :
    ∃ ad cap, v = .slice ad xs.length cap ∧ Rd k w ad cap xs ∧ ∀ a, ad = some a → base ≤ a.block := by
  obtain ⟨ad, cap, rfl, hr⟩ := Rd.own h hw
  refine ⟨ad, cap, rfl, hr, fun a ha => ?_⟩
  subst ha
  exact (h.lt a.block rfl).1

/-- through a write to another row -/
theorem Rd.grown {row : Option Nat} (h : Rd k w ad cap xs) (hg : w.grownBy w' row) (hne : ∀ a, ad = some a → 0 < xs.length → some a.block ≠ row) : Rd k w' ad cap xs := by
  refine ⟨h.ncap, h.cap63, h.wf, h.none_, fun a ha hp => ?_⟩
  obtain ⟨h1, h2, h3⟩ := h.at_ a ha hp
  exact ⟨h1, Nat.lt_of_lt_of_le h2 hg.size, fun j hj => hg.cell (h3 j hj) (hne a ha hp)⟩

/-- what an append of such a slice asks -/
theorem Rd.src (h : Rd k w ad cap xs) : (xs.map (Value.int k)).length = xs.length * 1 ∧ (ad = none → xs.length = 0 ∧ cap = 0) ∧
    (∀ a, ad = some a → ∀ j u, (xs.map (Value.int k))[j]? = some u → w.cell? (a.add j) = some u) ∧ ∀ u ∈ xs.map (Value.int k), u.oneCell' = true := by
  refine ⟨by simp, fun e => ⟨by have := h.none_ e; have := h.ncap; omega, h.none_ e⟩, fun a ha j u hu => ?_, ints_oneCell k xs⟩
  have hj : j < xs.length := by
    have := (List.getElem?_eq_some_iff.1 hu).1
    simpa using this
  obtain ⟨h1, h2, h3⟩ := h.at_ a ha (by omega)
  obtain ⟨b, off, spot⟩ := a
  simp only at h1
  subst h1
  rw [Addr.add_lit, h3 j hj]
  simp [List.getElem?_eq_getElem hj] at hu
  simp [List.getD, List.getElem?_eq_getElem hj, hu]
end Go.Proofs.YtpjigecmnefnhaaDoor.Gx
