/-
  Slices of acts, as they came in; a slice of parts, cloned. Conditions: where the argument says.
-/
import Derived.Test.YtaibpnblnigkgaaHubQuiet
namespace Go.Proofs.Ytaibpnblnigkgaa
open Go.RowKit Go.Deep Gx
set_option maxRecDepth 100000

/-- an act -/
structure Ac where
  kind : Int
  client : Int
  l : List Part
  ad : Option Addr
  cap : Nat
instance : Inhabited Ac := ⟨⟨0, 0, [], none, 0⟩⟩
structure AW (w : World) (ad : Option Addr) (cap : Nat) (L : List Ac) : Prop where
  ncap : L.length ≤ cap
  cap63 : cap ≤ 9223372036854775807
  at_ : ∀ j q, L[j]? = some q → ∃ b off, ad = some ⟨b, off, none⟩ ∧ b < w.heap.size ∧ w.cell? ⟨b, off + j * 3, none⟩ = some (.int .i64 q.kind) ∧ w.cell? ⟨b, off + j * 3 + 1, none⟩ = some (.int .i64 q.client) ∧
    w.cell? ⟨b, off + j * 3 + 2, none⟩ = some (.slice q.ad q.l.length q.cap) ∧ PR w q.ad q.cap q.l
theorem AW.keep {w w' : World} {ad : Option Addr} {cap : Nat} {L : List Ac} (h : AW w ad cap L) (hb : Below w.heap.size w w') : AW w' ad cap L := by
  refine ⟨h.ncap, h.cap63, fun j q hj => ?_⟩
  obtain ⟨b, off, h1, h2, h3, h4, h5, h6⟩ := h.at_ j q hj
  exact ⟨b, off, h1, Nat.lt_of_lt_of_le h2 hb.size, (hb.cell (p := ⟨b, _, none⟩) h2).trans h3, (hb.cell (p := ⟨b, _, none⟩) h2).trans h4, (hb.cell (p := ⟨b, _, none⟩) h2).trans h5, h6.keep hb⟩
section
variable {H : Type} {enc : TypeId × Value → H} {w : World} {base : Nat} {spare : Nat → Bool} {held : Bool}
theorem parts_cell {fuel : Nat} {v : Value} {x : DataW H × List MemPlace} (h : DataW.trod enc Try.prog w base spare held fuel 29 [v] = some x) : ∃ (ad : Option Addr) (cap : Nat) (L : List Part), v = .slice ad L.length cap ∧ PR w ad cap L := by
  have hform : ∃ ad len cap, v = .slice ad len cap := by
    rcases open_trips Try.underlying29 Try.underlying54 (by kernel_rfl) rfl rfl rfl (by kernel_rfl) (by kernel_rfl) (by kernel_rfl) h with ⟨hcs, _⟩ | ⟨a, len', cap', m, n, D, hcs, _⟩
    · exact ⟨none, 0, 0, by simpa using hcs⟩
    · exact ⟨some a, len', cap', by simpa using hcs⟩
  obtain ⟨ad, len, cap, rfl⟩ := hform
  obtain ⟨L, rfl, hp⟩ := open_parts rfl (show DataW.trod enc Try.prog w base spare held fuel 29 (Value.slice ad len cap).cells.toList = some x from h)
  exact ⟨ad, cap, L, rfl, hp⟩
theorem open_acts {fuel : Nat} {v : Value} {x : DataW H × List MemPlace} {ad : Option Addr} {len cap : Nat} (hv : v = .slice ad len cap)
    (h : DataW.trod enc Try.prog w base spare held fuel 22 v.cells.toList = some x) : ∃ L, L.length = len ∧ AW w ad cap L := by
  subst hv
  rcases open_trips Try.underlying22 Try.underlying41 (by kernel_rfl) rfl rfl rfl (by kernel_rfl) (by kernel_rfl) (by kernel_rfl) h with ⟨hcs, _⟩ | ⟨a, len', cap', m, n, D, hcs, _, hl, hm, hlm, hx, hi⟩
  · simp [Value.cells] at hcs
    obtain ⟨rfl, rfl, rfl⟩ := hcs
    exact ⟨[], rfl, Nat.le_refl _, by decide, fun j q hj => by simp at hj⟩
  · simp [Value.cells] at hcs
    obtain ⟨rfl, rfl, rfl⟩ := hcs
    have hall : ∀ i, i < len → ∃ q : Ac, w.cell? (a.add (i * 3)) = some (.int .i64 q.kind) ∧ w.cell? (a.add (i * 3 + 1)) = some (.int .i64 q.client) ∧ w.cell? (a.add (i * 3 + 2)) = some (.slice q.ad q.l.length q.cap) ∧ PR w q.ad q.cap q.l := by
      intro i hil
      obtain ⟨v0, v1, v2, y0, y1, y2, e0, e1, e2, g0, g1, g2, -⟩ := hi i (by omega)
      obtain ⟨n0, k0, -, w0⟩ := DataW.trod_int Try.underlying3 g0
      obtain ⟨n1, k1, -, w1⟩ := DataW.trod_int Try.underlying3 g1
      obtain ⟨pd, pc, L, rfl, hp⟩ := parts_cell g2
      simp at k0 k1
      subst k0; subst k1
      exact ⟨⟨n0, n1, L, pd, pc⟩, e0, e1, e2, hp⟩
    obtain ⟨F, hF⟩ := choose_lt hall
    have hg : ∀ j p, ((List.range len).map F)[j]? = some p → j < len ∧ p = F j := by
      intro j p hj
      rw [List.getElem?_map] at hj
      by_cases hjl : j < len
      · rw [List.getElem?_range hjl] at hj
        simp at hj
        exact ⟨hjl, hj.symm⟩
      · rw [List.getElem?_eq_none (by simp; omega)] at hj
        cases hj
    refine ⟨(List.range len).map F, by simp, by simpa using hl, (by unfold maxLen at hm; omega), fun j q hj => ?_⟩
    obtain ⟨h1, rfl⟩ := hg j q hj
    obtain ⟨k1, k2, k3, k4⟩ := hF j h1
    have hspot : a.spot = none := by
      have := World.cell?_spot (hF 0 (by omega)).1
      simpa [Addr.add] using this
    obtain ⟨b, off, spot⟩ := a
    simp only at hspot
    subst hspot
    simp only [Addr.add_lit] at k1 k2 k3
    exact ⟨b, off, rfl, World.block_lt_of_cell? w ⟨b, off + j * 3, none⟩ k1, k1, by rw [Nat.add_assoc]; exact k2, by rw [Nat.add_assoc]; exact k3, k4⟩
end
/-! parts, cloned -/
def ClonePP (l : List Part) (w : World) (e : Ending) (w' : World) : Prop := ∃ no nc, e = .returned (.slice no l.length nc) ∧ PR w' no nc l ∧ Fresh w.heap.size no ∧ Below w.heap.size w w'
set_option maxHeartbeats 4000000 in
theorem clonep_any (w : World) (ad : Option Addr) (cap : Nat) (l : List Part) (h : PR w ad cap l) (hl : l.length ≤ 100000) : Calls Try.prog 20 #[.slice ad l.length cap] w (ClonePP l w) := by
  have q22 : ∀ (w : World) (a : Option Addr) (n c n' c' : Nat), (binOp .eql 29 (.slice a n c) (.slice none n' c')).run Try.prog w = .ok (.bool a.isNone) w := fun w a n c n' c' => Lib.run_eql_slice_nil w _ _ a n c n' c' Try.underlying29
  have hcells : ∀ a, ad = some a → ∀ j u, (partCells l)[j]? = some u → w.cell? (a.add j) = some u := fun a ha j u hj => by
    have hj3 : j < l.length * 3 := by rw [← partCells_len]; exact (List.getElem?_eq_some_iff.1 hj).1
    obtain ⟨q, hq⟩ : ∃ q, l[j / 3]? = some q := ⟨_, List.getElem?_eq_getElem (by omega)⟩
    obtain ⟨h1, h2, h3⟩ := h.at_ a ha (by omega)
    obtain ⟨e0, e1, e2⟩ := h3 _ q hq
    obtain ⟨p0, p1, p2⟩ := partCells_at l _ q hq
    obtain ⟨b, off, spot⟩ := a
    simp only at h1
    subst h1
    rw [Addr.add_lit]
    simp only at e0 e1 e2
    have h4 : j = j / 3 * 3 ∨ j = j / 3 * 3 + 1 ∨ j = j / 3 * 3 + 2 := by omega
    rcases h4 with e | e | e
    · rw [e] at hj ⊢; rw [p0] at hj; cases hj; exact e0
    · rw [e] at hj ⊢; rw [p1] at hj; cases hj; rw [← Nat.add_assoc]; exact e1
    · rw [e] at hj ⊢; rw [p2] at hj; cases hj; rw [← Nat.add_assoc]; exact e2
  cases ad with
  | none =>
    obtain rfl : l = [] := by
      have h1 := h.none_ rfl
      have h2 := h.ncap
      exact List.eq_nil_of_length_eq_zero (by omega)
    obtain rfl : cap = 0 := h.none_ rfl
    go_enter Try.func20, Try.ntmps20
    go_wp2_with fail
    try go_ret
    exact ⟨none, 0, rfl, PR.nil _ _ _ (fun _ => rfl) (by decide), (by intro a ha; cases ha), Below.refl _ _⟩
  | some a =>
    have HWF := Lib.hid h.wf
    have HC := Lib.hid (hcells a rfl)
    obtain ⟨n, hn⟩ : ∃ n, l.length = n := ⟨_, rfl⟩
    have HN := Lib.hid hn
    rw [hn] at hl ⊢
    clear h hcells hn
    have hown : (w.alloc (.cells #[] 54)).ownsRow w.heap.size 54 3 (.slice (some ⟨w.heap.size, 0, none⟩) 0 0) 0 [] :=
      ⟨rfl, .inr ⟨w.heap.size, 0, #[], rfl, Nat.le_refl _, heap_alloc_new _ _, Nat.le_refl _, Nat.zero_le _, rfl, rfl⟩⟩
    have HO := Lib.hid hown
    clear hown
    go_enter Try.func20, Try.ntmps20
    go_wp2_with (at_builtin; refine Gx.wpList_append_all (w.alloc (.cells #[] 54)) rfl (.tmp 5) (.tmp 6) 29 rfl w.heap.size 54 (.agg #[.int .i64 0, .int .i64 0, .string ⟨#[]⟩]) 3 32 Try.underlying29 Try.info_part rfl (by decide) (.slice (some ⟨w.heap.size, 0, none⟩) 0 0) 0 [] (some a) n cap (partCells l) rfl rfl HO.out (by rw [partCells_len, HN.out]) (fun e => by simp at e) (fun a' e j u hj => by cases e; exact (World.cell?_alloc_lt _ _ _ (World.block_lt_of_cell? _ _ (HC.out j u hj))).trans (HC.out j u hj)) (partCells_one l) (by omega) (by omega) (by rw [World.size_alloc]; omega) ?_; intro v' w' hown' hg' _)
    obtain ⟨vo, vc, rfl⟩ := own_form hown'
    have HOW := Lib.hid hown'
    have HG := Lib.hid hg'
    clear hown' hg'
    go_wp2_with fail
    try go_ret
    have ho := HOW.out
    rw [Nat.zero_add, List.nil_append] at ho
    obtain ⟨no, nc, hv, hp, hf⟩ := PR.own ho HN.out HWF.out
    obtain ⟨rfl, -, rfl⟩ : vo = no ∧ n = n ∧ vc = nc := by simpa using hv
    refine ⟨vo, vc, by rw [Nat.zero_add, HN.out]; rfl, hp, hf, ((Below.refl w.heap.size w).alloc (Nat.le_refl _) _).grown HG.out (by rw [World.size_alloc]; omega) (fun k e => by have : k = w.heap.size := (Option.some.inj e).symm; omega)⟩
end Go.Proofs.Ytaibpnblnigkgaa
