/-
  Slices of steps, as they came in or were made. No conditions.
-/
import Derived.Test.YtpjigecmnefnhaaDoorPathLaw
import Derived.Test.YtpjigecmnefnhaaDoorStrBits
import Derived.Test.YtpjigecmnefnhaaDoorProg
import Derived.Test.YtpjigecmnefnhaaDoorGx
import Derived.Test.YtpjigecmnefnhaaDoorRd
import Derived.Deep.Slices
import Derived.ChangeSame
namespace Go.Proofs.YtpjigecmnefnhaaDoor
open Go.RowKit Go.Deep

section
variable {H : Type} {enc : TypeId × Value → H} {P : Program} {w : World} {base : Nat} {spare : Nat → Bool} {held : Bool}

/-- a slice of structs of two one-cell fields, opened -/
theorem open_twos {t e : TypeId} {f0 f1 : Field} {fuel : Nat} {cs : List Value} {x : DataW H × List MemPlace} (ht : P.underlying t = some (.slice e)) (he : P.underlying e = some (.struct #[f0, f1]))
    (ce : P.cellsOf e = 2) (o0 : f0.offset = 0) (o1 : f1.offset = 1) (c0 : P.cellsOf f0.type = 1) (c1 : P.cellsOf f1.type = 1)
    (h : DataW.trod enc P w base spare held fuel t cs = some x) :
    (cs = [.slice none 0 0] ∧ x = (.nil, [])) ∨
    ∃ (a : Addr) (len cap m n : Nat) (D : Nat → DataW H), cs = [.slice (some a) len cap] ∧ base ≤ a.block ∧ len ≤ cap ∧ cap ≤ maxLen ∧ len ≤ m ∧
      x.1 = .slice ((List.range len).map D) ((List.range (m - len)).map fun j => D (len + j)) ∧
      ∀ i, i < m → ∃ v0 v1 y0 y1, w.cell? (a.add (i * 2)) = some v0 ∧ w.cell? (a.add (i * 2 + 1)) = some v1 ∧
        DataW.trod enc P w base spare held n f0.type [v0] = some y0 ∧ DataW.trod enc P w base spare held n f1.type [v1] = some y1 ∧ D i = .agg [y0.1, y1.1] := by
  rcases open_slice ht h with h0 | ⟨a, len, cap, m, n, D, Pl, rfl, hb, hl, hm, hmm, rfl, hx⟩
  · exact Or.inl h0
  right
  have hlm : len ≤ m := by rw [hmm]; split <;> omega
  refine ⟨a, len, cap, m, n - 1, D, rfl, hb, hl, hm, hlm, rfl, fun i hi => ?_⟩
  obtain ⟨cs', h1, h2⟩ := hx i hi
  rw [ce] at h1
  obtain ⟨_, hlen, hcell⟩ := World.cells?_some h1
  obtain ⟨xs, k, hk, hxy, _, hxl, hf⟩ := DataW.trod_struct he h2
  have hk' : k = n - 1 := by omega
  subst hk'
  match xs, hxl, cs', hlen with
  | [y0, y1], _, [v0, v1], _ =>
    have g0 := hf 0 f0 rfl
    have g1 := hf 1 f1 rfl
    simp [o0, o1, c0, c1] at g0 g1
    have e0 := hcell 0 (by omega)
    have e1 := hcell 1 (by omega)
    rw [add_add] at e0 e1
    simp only [Prod.mk.injEq] at hxy
    exact ⟨v0, v1, y0, y1, by simpa using e0, by simpa using e1, g0, g1, by simpa using hxy.1⟩
end

def bs (l : List UInt8) : ByteArray := ⟨l.toArray⟩
theorem list_bs (l : List UInt8) : (bs l).data.toList = l := rfl
theorem bs_size (l : List UInt8) : (bs l).size = l.length := by rw [Lib.size_eq, list_bs]
theorem bs_of (s : ByteArray) : s = bs s.data.toList := bytes_of rfl
theorem bytes_bs {s : ByteArray} {l : List UInt8} (h : s.data.toList = l) : s = bs l := bytes_of h

def step2 (q : Step) : List Value := [.string (bs q.1), .int .i64 q.2]
def stepCells (l : List Step) : List Value := l.flatMap step2
theorem stepCells_snoc (l : List Step) (q : Step) : stepCells (l ++ [q]) = stepCells l ++ step2 q := by simp [stepCells]
theorem stepCells_cons (q : Step) (l : List Step) : stepCells (q :: l) = step2 q ++ stepCells l := rfl
theorem stepCells_len (l : List Step) : (stepCells l).length = l.length * 2 := by
  induction l with
  | nil => rfl
  | cons t l ih => rw [stepCells_cons, List.length_append, ih, List.length_cons]; simp [step2]; omega
theorem stepCells_at (l : List Step) (j : Nat) (q : Step) (h : l[j]? = some q) : (stepCells l)[j * 2]? = some (.string (bs q.1)) ∧ (stepCells l)[j * 2 + 1]? = some (.int .i64 q.2) := by
  induction l generalizing j with
  | nil => simp at h
  | cons t l ih =>
    rw [stepCells_cons]
    cases j with
    | zero => simp at h; subst h; simp [step2]
    | succ j =>
      obtain ⟨h1, h2⟩ := ih j (by simpa using h)
      have hl : (step2 t).length = 2 := rfl
      rw [List.getElem?_append_right (by omega), List.getElem?_append_right (by omega), hl]
      rw [show (j + 1) * 2 - 2 = j * 2 by omega, show (j + 1) * 2 + 1 - 2 = j * 2 + 1 by omega]
      exact ⟨h1, h2⟩
theorem stepCells_one (l : List Step) : ∀ u ∈ stepCells l, u.oneCell' = true := by
  intro u hu
  simp only [stepCells, List.mem_flatMap] at hu
  obtain ⟨q, _, hq⟩ := hu
  simp [step2] at hq
  rcases hq with rfl | rfl <;> rfl
theorem Tryd.info_step : (Tryd.prog.info? 33).map (fun i => (i.zero, i.size, i.bytes)) = some (some (.agg #[.string ⟨#[]⟩, .int .i64 0]), 2, 24) := by kernel_rfl

/-- the steps that lie at a place -/
structure SR (w : World) (ad : Option Addr) (cap : Nat) (l : List Step) : Prop where
  ncap : l.length ≤ cap
  cap63 : cap ≤ 9223372036854775807
  wf : ∀ q ∈ l, (Lit.int .i64 q.2).wf = true ∧ q.1.length ≤ 9223372036854775807
  none_ : ad = none → cap = 0
  at_ : ∀ a, ad = some a → 0 < l.length → a.spot = none ∧ a.block < w.heap.size ∧ ∀ j q, l[j]? = some q →
    w.cell? ⟨a.block, a.off + j * 2, none⟩ = some (.string (bs q.1)) ∧ w.cell? ⟨a.block, a.off + j * 2 + 1, none⟩ = some (.int .i64 q.2)
theorem SR.keep {w w' : World} {ad : Option Addr} {cap : Nat} {l : List Step} (h : SR w ad cap l) (hb : Below w.heap.size w w') : SR w' ad cap l := by
  refine ⟨h.ncap, h.cap63, h.wf, h.none_, fun a ha hp => ?_⟩
  obtain ⟨h1, h2, h3⟩ := h.at_ a ha hp
  have hk : ∀ o, w'.cell? ⟨a.block, o, none⟩ = w.cell? ⟨a.block, o, none⟩ := fun o => World.cell?_of_block (hb.block _ h2)
  refine ⟨h1, Nat.lt_of_lt_of_le h2 hb.size, fun j q hj => ?_⟩
  rw [hk, hk]
  exact h3 j q hj
theorem SR.nil (w : World) (ad : Option Addr) (cap : Nat) (h : ad = none → cap = 0) (hc : cap ≤ 9223372036854775807) : SR w ad cap [] :=
  ⟨Nat.zero_le _, hc, fun q hq => by simp at hq, h, fun a _ hp => by simp at hp⟩
theorem SR.addr {w : World} {ad : Option Addr} {cap : Nat} {l : List Step} (h : SR w ad cap l) (hp : 0 < l.length) : ∃ b off, ad = some ⟨b, off, none⟩ ∧ b < w.heap.size ∧ ∀ j q, l[j]? = some q →
    w.cell? ⟨b, off + j * 2, none⟩ = some (.string (bs q.1)) ∧ w.cell? ⟨b, off + j * 2 + 1, none⟩ = some (.int .i64 q.2) := by
  cases ad with
  | none => have := h.none_ rfl; have := h.ncap; omega
  | some a =>
    obtain ⟨h1, h2, h3⟩ := h.at_ a rfl hp
    obtain ⟨b, off, spot⟩ := a
    simp only at h1
    subst h1
    exact ⟨b, off, rfl, h2, h3⟩
/-- what a call has made -/
theorem SR.own {w : World} {base : Nat} {v : Value} {n : Nat} {l : List Step} (h : w.ownsRow base 33 2 v n (stepCells l)) (hl : l.length = n) (hw : ∀ q ∈ l, (Lit.int .i64 q.2).wf = true ∧ q.1.length ≤ 9223372036854775807) :
    ∃ ad cap, v = .slice ad n cap ∧ SR w ad cap l ∧ ∀ a, ad = some a → base ≤ a.block := by
  subst hl
  have hc := fun g => h.cells (g := g)
  rcases h.2 with ⟨rfl, h0⟩ | ⟨g, cap, cur, rfl, hb, hg, hnc, hcm, _⟩
  · have : l = [] := List.eq_nil_of_length_eq_zero h0
    subst this
    exact ⟨none, 0, rfl, SR.nil _ _ _ (fun _ => rfl) (by decide), fun a ha => by cases ha⟩
  · refine ⟨some ⟨g, 0, none⟩, cap, rfl, ⟨hnc, by unfold maxLen at hcm; omega, hw, (fun h => by cases h), fun a ha hp => ?_⟩, fun a ha => ?_⟩
    · obtain rfl := Option.some.inj ha
      refine ⟨rfl, (Array.getElem?_eq_some_iff.1 hg).1, fun j q hj => ?_⟩
      obtain ⟨h1, h2⟩ := stepCells_at l j q hj
      have k1 := hc g rfl _ _ h1
      have k2 := hc g rfl _ _ h2
      simp only [Addr.add_lit] at k1 k2
      exact ⟨k1, by rw [Nat.add_assoc]; exact k2⟩
    · obtain rfl := Option.some.inj ha
      exact hb
/-- an argument -/
theorem open_steps {H : Type} {enc : TypeId × Value → H} {w : World} {base : Nat} {spare : Nat → Bool} {held : Bool} {fuel : Nat} {v : Value} {x : DataW H × List MemPlace} {ad : Option Addr} {len cap : Nat} (hv : v = .slice ad len cap)
    (h : DataW.trod enc Tryd.prog w base spare held fuel 27 v.cells.toList = some x) : ∃ L, L.length = len ∧ SR w ad cap L := by
  subst hv
  rcases open_twos Tryd.underlying27 Tryd.underlying33 (by kernel_rfl) rfl rfl (by kernel_rfl) (by kernel_rfl) h with ⟨hcs, _⟩ | ⟨a, len', cap', m, n, D, hcs, _, hl, hm, hlm, hx, hi⟩
  · simp [Value.cells] at hcs
    obtain ⟨rfl, rfl, rfl⟩ := hcs
    exact ⟨[], rfl, SR.nil _ _ _ (fun _ => rfl) (by decide)⟩
  · simp [Value.cells] at hcs
    obtain ⟨rfl, rfl, rfl⟩ := hcs
    have hall : ∀ i, i < len → ∃ p : Step, ((Lit.int .i64 p.2).wf = true ∧ p.1.length ≤ 9223372036854775807) ∧ w.cell? (a.add (i * 2)) = some (.string (bs p.1)) ∧ w.cell? (a.add (i * 2 + 1)) = some (.int .i64 p.2) := by
      intro i hil
      obtain ⟨v0, v1, y0, y1, e0, e1, g0, g1, -⟩ := hi i (by omega)
      obtain ⟨s, k0, -, w0⟩ := DataW.trod_string Tryd.underlying9 g0
      obtain ⟨n1, k1, -, w1⟩ := DataW.trod_int Tryd.underlying3 g1
      simp at k0 k1
      subst k0; subst k1
      refine ⟨(s.data.toList, n1), ⟨w1, ?_⟩, e0, e1⟩
      have e : s.data.toList.length = s.size := Array.length_toList
      unfold maxLen at w0
      simp only
      omega
    obtain ⟨F, hF⟩ := choose_lt hall
    have hg : ∀ j p, ((List.range len).map F)[j]? = some p → j < len ∧ p = F j := by
      intro j p hj
      rw [List.getElem?_map] at hj
      by_cases hjl : j < len
      · rw [List.getElem?_range hjl] at hj
        simp at hj
        exact ⟨hjl, hj.symm⟩
      · rw [List.getElem?_eq_none (by simp; omega)] at hj
        cases hj
    refine ⟨(List.range len).map F, by simp, ⟨by simpa using hl, (by unfold maxLen at hm; omega), fun p hp => ?_, (fun h => by cases h), fun b hb hp => ?_⟩⟩
    · obtain ⟨j, hj, rfl⟩ := List.getElem_of_mem hp
      obtain ⟨h1, h2⟩ := hg j _ (List.getElem?_eq_getElem hj)
      rw [h2]
      exact (hF j h1).1
    · cases hb
      simp at hp
      have h0 := (hF 0 hp).2.1
      have hspot : a.spot = none := by
        have := World.cell?_spot h0
        simpa [Addr.add] using this
      obtain ⟨b, off, spot⟩ := a
      simp only at hspot
      subst hspot
      refine ⟨rfl, World.block_lt_of_cell? w ⟨b, off + 0 * 2, none⟩ (by rw [Addr.add_lit] at h0; exact h0), fun j p hj => ?_⟩
      obtain ⟨h1, rfl⟩ := hg j p hj
      obtain ⟨-, k1, k2⟩ := hF j h1
      simp only [Addr.add_lit] at k1 k2
      exact ⟨k1, by rw [Nat.add_assoc]; exact k2⟩
end Go.Proofs.YtpjigecmnefnhaaDoor
