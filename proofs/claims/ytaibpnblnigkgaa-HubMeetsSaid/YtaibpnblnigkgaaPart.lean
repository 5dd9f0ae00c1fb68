/-
  Slices of parts, as they came in or were made. No conditions.
-/
import Derived.Test.YtaibpnblnigkgaaSpliceObj
import Derived.Deep.Slices
import Derived.ChangeSame
namespace Go.Proofs.Ytaibpnblnigkgaa
open Go.RowKit Go.Deep

section
variable {H : Type} {enc : TypeId × Value → H} {P : Program} {w : World} {base : Nat} {spare : Nat → Bool} {held : Bool}

/-- a slice of structs of three one-cell fields, opened -/
theorem open_trips {t e : TypeId} {f0 f1 f2 : Field} {fuel : Nat} {cs : List Value} {x : DataW H × List MemPlace} (ht : P.underlying t = some (.slice e)) (he : P.underlying e = some (.struct #[f0, f1, f2]))
    (ce : P.cellsOf e = 3) (o0 : f0.offset = 0) (o1 : f1.offset = 1) (o2 : f2.offset = 2) (c0 : P.cellsOf f0.type = 1) (c1 : P.cellsOf f1.type = 1) (c2 : P.cellsOf f2.type = 1)
    (h : DataW.trod enc P w base spare held fuel t cs = some x) :
    (cs = [.slice none 0 0] ∧ x = (.nil, [])) ∨
    ∃ (a : Addr) (len cap m n : Nat) (D : Nat → DataW H), cs = [.slice (some a) len cap] ∧ base ≤ a.block ∧ len ≤ cap ∧ cap ≤ maxLen ∧ len ≤ m ∧
      x.1 = .slice ((List.range len).map D) ((List.range (m - len)).map fun j => D (len + j)) ∧
      ∀ i, i < m → ∃ v0 v1 v2 y0 y1 y2, w.cell? (a.add (i * 3)) = some v0 ∧ w.cell? (a.add (i * 3 + 1)) = some v1 ∧ w.cell? (a.add (i * 3 + 2)) = some v2 ∧
        DataW.trod enc P w base spare held n f0.type [v0] = some y0 ∧ DataW.trod enc P w base spare held n f1.type [v1] = some y1 ∧ DataW.trod enc P w base spare held n f2.type [v2] = some y2 ∧ D i = .agg [y0.1, y1.1, y2.1] := by
  rcases open_slice ht h with h0 | ⟨a, len, cap, m, n, D, Pl, rfl, hb, hl, hm, hmm, rfl, hx⟩
  · exact Or.inl h0
  right
  have hlm : len ≤ m := by rw [hmm]; split <;> omega
  refine ⟨a, len, cap, m, n - 1, D, rfl, hb, hl, hm, hlm, rfl, fun i hi => ?_⟩
  obtain ⟨cs', h1, h2⟩ := hx i hi
  rw [ce] at h1
  obtain ⟨_, hlen, hcell⟩ := World.cells?_some h1
  obtain ⟨xs, k, hk, hxy, _, hxl, hf⟩ := DataW.trod_struct he h2
  have hk' : k = n - 1 := by omega
  subst hk'
  match xs, hxl, cs', hlen with
  | [y0, y1, y2], _, [v0, v1, v2], _ =>
    have g0 := hf 0 f0 rfl
    have g1 := hf 1 f1 rfl
    have g2 := hf 2 f2 rfl
    simp [o0, o1, o2, c0, c1, c2] at g0 g1 g2
    have e0 := hcell 0 (by omega)
    have e1 := hcell 1 (by omega)
    have e2 := hcell 2 (by omega)
    rw [add_add] at e0 e1 e2
    simp only [Prod.mk.injEq] at hxy
    exact ⟨v0, v1, v2, y0, y1, y2, by simpa using e0, by simpa using e1, by simpa using e2, g0, g1, g2, by simpa using hxy.1⟩
end

/-- the parts that lie at a place -/
structure PR (w : World) (ad : Option Addr) (cap : Nat) (l : List Part) : Prop where
  ncap : l.length ≤ cap
  cap63 : cap ≤ 9223372036854775807
  wf : ∀ q ∈ l, (Lit.int .i64 q.1).wf = true ∧ (Lit.int .i64 q.2.1).wf = true ∧ q.2.2.length ≤ 9223372036854775807
  none_ : ad = none → cap = 0
  at_ : ∀ a, ad = some a → 0 < l.length → a.spot = none ∧ a.block < w.heap.size ∧ ∀ j q, l[j]? = some q →
    w.cell? ⟨a.block, a.off + j * 3, none⟩ = some (.int .i64 q.1) ∧ w.cell? ⟨a.block, a.off + j * 3 + 1, none⟩ = some (.int .i64 q.2.1) ∧ w.cell? ⟨a.block, a.off + j * 3 + 2, none⟩ = some (.string (bs q.2.2))

theorem PR.through {w w' : World} {ad : Option Addr} {cap : Nat} {l : List Part} (h : PR w ad cap l) (hs : w.heap.size ≤ w'.heap.size) (hb : ∀ a, ad = some a → a.block < w.heap.size → w'.heap[a.block]? = w.heap[a.block]?) : PR w' ad cap l := by
  refine ⟨h.ncap, h.cap63, h.wf, h.none_, fun a ha hp => ?_⟩
  obtain ⟨h1, h2, h3⟩ := h.at_ a ha hp
  have hk : ∀ o, w'.cell? ⟨a.block, o, none⟩ = w.cell? ⟨a.block, o, none⟩ := fun o => World.cell?_of_block (hb a ha h2)
  refine ⟨h1, Nat.lt_of_lt_of_le h2 hs, fun j q hj => ?_⟩
  rw [hk, hk, hk]
  exact h3 j q hj
theorem PR.keep {w w' : World} {ad : Option Addr} {cap : Nat} {l : List Part} (h : PR w ad cap l) (hb : Below w.heap.size w w') : PR w' ad cap l :=
  h.through hb.size (fun _ _ hl => hb.block _ hl)
/-- through what changes blocks of another's -/
theorem PR.chg {w w' : World} {S : Nat → Prop} {ad : Option Addr} {cap : Nat} {l : List Part} (h : PR w ad cap l) (hc : Chg S w w') (hs : ∀ a, ad = some a → a.block < w.heap.size → ¬ S a.block) : PR w' ad cap l :=
  h.through hc.size (fun a ha hl => hc.block _ hl (hs a ha hl))

theorem PR.nil (w : World) (ad : Option Addr) (cap : Nat) (h : ad = none → cap = 0) (hc : cap ≤ 9223372036854775807) : PR w ad cap [] :=
  ⟨Nat.zero_le _, hc, fun q hq => by simp at hq, h, fun a _ hp => by simp at hp⟩

theorem PR.addr {w : World} {ad : Option Addr} {cap : Nat} {l : List Part} (h : PR w ad cap l) (hp : 0 < l.length) : ∃ b off, ad = some ⟨b, off, none⟩ ∧ b < w.heap.size ∧ ∀ j q, l[j]? = some q →
    w.cell? ⟨b, off + j * 3, none⟩ = some (.int .i64 q.1) ∧ w.cell? ⟨b, off + j * 3 + 1, none⟩ = some (.int .i64 q.2.1) ∧ w.cell? ⟨b, off + j * 3 + 2, none⟩ = some (.string (bs q.2.2)) := by
  cases ad with
  | none => have := h.none_ rfl; have := h.ncap; omega
  | some a =>
    obtain ⟨h1, h2, h3⟩ := h.at_ a rfl hp
    obtain ⟨b, off, spot⟩ := a
    simp only at h1
    subst h1
    exact ⟨b, off, rfl, h2, h3⟩

/-- the parts behind the first -/
theorem PR.rest {w : World} {b off cap : Nat} {q : Part} {l : List Part} (h : PR w (some ⟨b, off, none⟩) cap (q :: l)) : PR w (some ⟨b, off + 3, none⟩) (cap - 1) l := by
  have hn := h.ncap
  have hc := h.cap63
  simp only [List.length_cons] at hn
  refine ⟨by omega, by omega, fun x hx => h.wf x (List.mem_cons_of_mem _ hx), (fun h => by cases h), fun a ha hp => ?_⟩
  obtain rfl := Option.some.inj ha
  obtain ⟨h1, h2, h3⟩ := h.at_ _ rfl (by simp)
  refine ⟨rfl, h2, fun j x hj => ?_⟩
  have := h3 (j + 1) x (by simpa using hj)
  simp only at this ⊢
  rw [show off + (j + 1) * 3 = off + 3 + j * 3 by omega] at this
  exact this

/-- what a call has made -/
theorem PR.own {w : World} {base : Nat} {v : Value} {n : Nat} {l : List Part} (h : w.ownsRow base 54 3 v n (partCells l)) (hl : l.length = n) (hw : ∀ q ∈ l, (Lit.int .i64 q.1).wf = true ∧ (Lit.int .i64 q.2.1).wf = true ∧ q.2.2.length ≤ 9223372036854775807) :
    ∃ ad cap, v = .slice ad n cap ∧ PR w ad cap l ∧ ∀ a, ad = some a → base ≤ a.block := by
  subst hl
  have hc := fun g => h.cells (g := g)
  rcases h.2 with ⟨rfl, h0⟩ | ⟨g, cap, cur, rfl, hb, hg, hnc, hcm, _⟩
  · have : l = [] := List.eq_nil_of_length_eq_zero h0
    subst this
    exact ⟨none, 0, rfl, PR.nil _ _ _ (fun _ => rfl) (by decide), fun a ha => by cases ha⟩
  · refine ⟨some ⟨g, 0, none⟩, cap, rfl, ⟨hnc, by unfold maxLen at hcm; omega, hw, (fun h => by cases h), fun a ha hp => ?_⟩, fun a ha => ?_⟩
    · obtain rfl := Option.some.inj ha
      refine ⟨rfl, (Array.getElem?_eq_some_iff.1 hg).1, fun j q hj => ?_⟩
      obtain ⟨h1, h2, h3⟩ := partCells_at l j q hj
      have k1 := hc g rfl _ _ h1
      have k2 := hc g rfl _ _ h2
      have k3 := hc g rfl _ _ h3
      simp only [Addr.add_lit] at k1 k2 k3
      exact ⟨k1, by rw [Nat.add_assoc]; exact k2, by rw [Nat.add_assoc]; exact k3⟩
    · obtain rfl := Option.some.inj ha
      exact hb

/-- an argument -/
theorem open_parts {H : Type} {enc : TypeId × Value → H} {w : World} {base : Nat} {spare : Nat → Bool} {held : Bool} {fuel : Nat} {v : Value} {x : DataW H × List MemPlace} {ad : Option Addr} {len cap : Nat} (hv : v = .slice ad len cap)
    (h : DataW.trod enc Try.prog w base spare held fuel 29 v.cells.toList = some x) : ∃ L, L.length = len ∧ PR w ad cap L := by
  subst hv
  rcases open_trips Try.underlying29 Try.underlying54 (by kernel_rfl) rfl rfl rfl (by kernel_rfl) (by kernel_rfl) (by kernel_rfl) h with ⟨hcs, _⟩ | ⟨a, len', cap', m, n, D, hcs, _, hl, hm, hlm, hx, hi⟩
  · simp [Value.cells] at hcs
    obtain ⟨rfl, rfl, rfl⟩ := hcs
    exact ⟨[], rfl, PR.nil _ _ _ (fun _ => rfl) (by decide)⟩
  · simp [Value.cells] at hcs
    obtain ⟨rfl, rfl, rfl⟩ := hcs
    have hall : ∀ i, i < len → ∃ p : Part, ((Lit.int .i64 p.1).wf = true ∧ (Lit.int .i64 p.2.1).wf = true ∧ p.2.2.length ≤ 9223372036854775807) ∧ w.cell? (a.add (i * 3)) = some (.int .i64 p.1) ∧ w.cell? (a.add (i * 3 + 1)) = some (.int .i64 p.2.1) ∧
        w.cell? (a.add (i * 3 + 2)) = some (.string (bs p.2.2)) := by
      intro i hil
      obtain ⟨v0, v1, v2, y0, y1, y2, e0, e1, e2, g0, g1, g2, -⟩ := hi i (by omega)
      obtain ⟨n0, k0, -, w0⟩ := DataW.trod_int Try.underlying3 g0
      obtain ⟨n1, k1, -, w1⟩ := DataW.trod_int Try.underlying3 g1
      obtain ⟨s, k2, -, w2⟩ := DataW.trod_string Try.underlying9 g2
      simp at k0 k1 k2
      subst k0; subst k1; subst k2
      refine ⟨(n0, n1, s.data.toList), ⟨w0, w1, ?_⟩, e0, e1, e2⟩
      have e : s.data.toList.length = s.size := Array.length_toList
      unfold maxLen at w2
      simp only
      omega
    obtain ⟨F, hF⟩ := choose_lt hall
    have hg : ∀ j p, ((List.range len).map F)[j]? = some p → j < len ∧ p = F j := by
      intro j p hj
      rw [List.getElem?_map] at hj
      by_cases hjl : j < len
      · rw [List.getElem?_range hjl] at hj
        simp at hj
        exact ⟨hjl, hj.symm⟩
      · rw [List.getElem?_eq_none (by simp; omega)] at hj
        cases hj
    refine ⟨(List.range len).map F, by simp, ⟨by simpa using hl, (by unfold maxLen at hm; omega), fun p hp => ?_, (fun h => by cases h), fun b hb hp => ?_⟩⟩
    · obtain ⟨j, hj, rfl⟩ := List.getElem_of_mem hp
      obtain ⟨h1, h2⟩ := hg j _ (List.getElem?_eq_getElem hj)
      rw [h2]
      exact (hF j h1).1
    · cases hb
      simp at hp
      have h0 := (hF 0 hp).2.1
      have hspot : a.spot = none := by
        have := World.cell?_spot h0
        simpa [Addr.add] using this
      obtain ⟨b, off, spot⟩ := a
      simp only at hspot
      subst hspot
      refine ⟨rfl, World.block_lt_of_cell? w ⟨b, off + 0 * 3, none⟩ (by rw [Addr.add_lit] at h0; exact h0), fun j p hj => ?_⟩
      obtain ⟨h1, rfl⟩ := hg j p hj
      obtain ⟨-, k1, k2, k3⟩ := hF j h1
      simp only [Addr.add_lit] at k1 k2 k3
      exact ⟨k1, by rw [Nat.add_assoc]; exact k2, by rw [Nat.add_assoc]; exact k3⟩
end Go.Proofs.Ytaibpnblnigkgaa
