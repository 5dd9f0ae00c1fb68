/-
  The contract of slices.Clone at nodes; a row of kids, read. Conditions: at most 20000 kids.
-/
import Derived.Test.YtfjeikijmconoaaTreeParse
import Derived.Test.YtfjeikijmconoaaCoverLaw
import Derived.Deep.RegionHeld3
namespace Go.Proofs.Ytfjeikijmconoaa
open Go.RowKit Gx
set_option maxRecDepth 100000

/-- a row of kids, read -/
structure KRow (w : World) (kids : List Nd) (sl : Value) (rows : List (Nd × Value)) : Prop where
  fst : rows.map Prod.fst = kids
  mem : ∀ p ∈ rows, KidsAt w (fun _ => True) p.1.kids p.2
  row : (kids = [] ∧ sl = .slice none 0 0) ∨ (kids ≠ [] ∧ ∃ blk cap, sl = .slice (some ⟨blk, 0, none⟩) kids.length cap ∧ blk < w.heap.size ∧ ∀ j u, (kidCells rows)[j]? = some u → w.cell? ⟨blk, j, none⟩ = some u)
theorem KidsAt.rows {w : World} {B : Nat → Prop} {kids : List Nd} {sl : Value} (h : KidsAt w B kids sl) : ∃ rows, KRow w kids sl rows := by
  cases h with
  | nil => exact ⟨[], rfl, fun p hp => absurd hp (by simp), .inl ⟨rfl, rfl⟩⟩
  | row _ sf blk cap hne hB hlt hc hk =>
    refine ⟨kids.mapIdx fun i n => (n, sf i), ?_, fun p hp => ?_, .inr ⟨hne, blk, cap, rfl, hlt, fun j u hj => ?_⟩⟩
    · apply List.ext_getElem?
      intro i
      rw [List.getElem?_map, List.getElem?_mapIdx]
      cases kids[i]? <;> rfl
    · obtain ⟨i, hi⟩ := List.getElem?_of_mem hp
      rw [List.getElem?_mapIdx] at hi
      cases hki : kids[i]? with
      | none => rw [hki] at hi; simp at hi
      | some n =>
        rw [hki] at hi
        have : (n, sf i) = p := by simpa using hi
        subst this
        exact (hk i n hki).weak fun b _ _ => trivial
    · have hj4 : j < kids.length * 4 := by
        have := (List.getElem?_eq_some_iff.1 hj).1
        rw [kidCells_length, List.length_mapIdx] at this
        exact this
      have hi : j / 4 < kids.length := by omega
      have hki : kids[j / 4]? = some (kids[j / 4]'hi) := List.getElem?_eq_getElem hi
      obtain ⟨a, b, c, d⟩ := kidCells_get (kids.mapIdx fun i n => (n, sf i)) (j / 4) (kids[j / 4]'hi, sf (j / 4)) (by rw [List.getElem?_mapIdx, hki]; rfl)
      obtain ⟨a', b', c', d'⟩ := hc _ _ hki
      have h4 : j = j / 4 * 4 ∨ j = j / 4 * 4 + 1 ∨ j = j / 4 * 4 + 2 ∨ j = j / 4 * 4 + 3 := by omega
      rcases h4 with e | e | e | e
      · rw [e] at hj ⊢; rw [a] at hj; cases hj; exact a'
      · rw [e] at hj ⊢; rw [b] at hj; cases hj; exact b'
      · rw [e] at hj ⊢; rw [c] at hj; cases hj; exact c'
      · rw [e] at hj ⊢; rw [d] at hj; cases hj; exact d'
theorem KRow.below {w w' : World} {kids : List Nd} {sl : Value} {rows : List (Nd × Value)} (h : KRow w kids sl rows) (hb : Below w.heap.size w w') : KRow w' kids sl rows := by
  have hg : ∀ {ks : List Nd} {v : Value}, KidsAt w (fun _ => True) ks v → KidsAt w' (fun _ => True) ks v := fun hk =>
    ((hk.weak (C := fun b => b < w.heap.size) (fun b _ hlt => hlt)).grow (row := some w.heap.size) ⟨hb.os, hb.tape, hb.output, hb.size, fun k hk _ => hb.block k hk⟩ (fun b e hb2 => by have := Option.some.inj e; omega)).weak (fun _ _ _ => trivial)
  refine ⟨h.fst, fun p hp => hg (h.mem p hp), ?_⟩
  rcases h.row with h1 | ⟨h1, blk, cap, h2, h3, h4⟩
  · exact .inl h1
  · exact .inr ⟨h1, blk, cap, h2, Nat.lt_of_lt_of_le h3 hb.size, fun j u hj => (hb.cell (p := ⟨blk, j, none⟩) h3).trans (h4 j u hj)⟩
theorem KRow.one {w : World} {kids : List Nd} {sl : Value} {rows : List (Nd × Value)} (h : KRow w kids sl rows) : ∀ u ∈ kidCells rows, u.oneCell' = true := by
  have : ∀ l : List (Nd × Value), (∀ p ∈ l, KidsAt w (fun _ => True) p.1.kids p.2) → ∀ u ∈ kidCells l, u.oneCell' = true := by
    intro l
    induction l with
    | nil => intro _ u hu; simp [kidCells] at hu
    | cons p l ih =>
      intro hp u hu
      obtain ⟨vo, vc, hv⟩ := (hp p (by simp)).form
      simp only [kidCells, List.mem_cons] at hu
      rcases hu with rfl | rfl | rfl | rfl | hu
      · rfl
      · rfl
      · rfl
      · rw [hv]; rfl
      · exact ih (fun q hq => hp q (by simp [hq])) u hu
  exact this rows h.mem
theorem KRow.length {w : World} {kids : List Nd} {sl : Value} {rows : List (Nd × Value)} (h : KRow w kids sl rows) : rows.length = kids.length := by rw [← h.fst, List.length_map]

def ClonePost (w : World) (rows : List (Nd × Value)) (e : Ending) (w' : World) : Prop := ∃ vo vc, e = .returned (.slice vo rows.length vc) ∧ Below w.heap.size w w' ∧ w'.ownsRow w.heap.size 34 4 (.slice vo rows.length vc) rows.length (kidCells rows)
set_option maxHeartbeats 4000000 in
theorem clone_any (w : World) (kids : List Nd) (sl : Value) (rows : List (Nd × Value)) (h : KRow w kids sl rows) (hl : kids.length ≤ 20000) : Calls Try.prog 21 #[sl] w (ClonePost w rows) := by
  have hrl := h.length
  rcases h.row with ⟨rfl, rfl⟩ | ⟨hne, blk, cap, rfl, hlt, hc⟩
  · obtain rfl : rows = [] := List.eq_nil_of_length_eq_zero (by simpa using hrl)
    have q22 : ∀ (w : World) (a : Option Addr) (n c n' c' : Nat), (binOp .eql 32 (.slice a n c) (.slice none n' c')).run Try.prog w = .ok (.bool a.isNone) w := fun w a n c n' c' => Lib.run_eql_slice_nil w _ _ a n c n' c' Try.underlying32
    go_enter Try.func21, Try.ntmps21
    go_wp2_with fail
    try go_ret
    exact ⟨none, 0, rfl, Below.refl _ _, World.ownsRow_nil _ _ _ _⟩
  · have H := Lib.hid h
    obtain ⟨n, hn⟩ : ∃ n, kids.length = n := ⟨_, rfl⟩
    rw [hn] at hrl hl ⊢
    have hpos : 0 < n := by rw [← hn]; exact List.length_pos_iff.2 hne
    have HC := Lib.hid hc
    have HRL := Lib.hid hrl
    clear hc h hn hne hrl
    have hown : (w.alloc (.cells #[] 34)).ownsRow w.heap.size 34 4 (.slice (some ⟨w.heap.size, 0, none⟩) 0 0) 0 [] :=
      ⟨rfl, .inr ⟨w.heap.size, 0, #[], rfl, Nat.le_refl _, heap_alloc_last _ _, Nat.le_refl _, Nat.zero_le _, rfl, rfl⟩⟩
    have HO := Lib.hid hown
    clear hown
    have q22 : ∀ (w : World) (a : Option Addr) (n c n' c' : Nat), (binOp .eql 32 (.slice a n c) (.slice none n' c')).run Try.prog w = .ok (.bool a.isNone) w := fun w a n c n' c' => Lib.run_eql_slice_nil w _ _ a n c n' c' Try.underlying32
    go_enter Try.func21, Try.ntmps21
    go_wp2_with (at_builtin; refine Gx.wpList_append_all (w.alloc (.cells #[] 34)) rfl (.tmp 5) (.tmp 6) 32 rfl w.heap.size 34 (.agg #[.int .i64 0, .int .i64 0, .int .i64 0, .slice none 0 0]) 4 48 Try.underlying32 Try.info_node rfl (by decide) (.slice (some ⟨w.heap.size, 0, none⟩) 0 0) 0 [] (some ⟨blk, 0, none⟩) n cap (kidCells rows) rfl rfl HO.out (by rw [kidCells_length, HRL.out]) (fun e => by simp at e) (fun a e j u hj => by cases e; rw [Addr.add_lit, Nat.zero_add]; exact (World.cell?_alloc_past _ blk j hlt).trans (HC.out j u hj)) H.out.one (by omega) (by omega) (by rw [World.size_alloc]; omega) ?_; intro v' w' hown' hg' _)
    obtain ⟨vo, vc, rfl⟩ := own_form hown'
    have HOW := Lib.hid hown'
    have HG := Lib.hid hg'
    clear hown' hg'
    go_wp2_with fail
    try go_ret
    refine ⟨vo, vc, by rw [HRL.out, Nat.zero_add]; rfl, ((Below.refl w.heap.size w).alloc (Nat.le_refl _) _).grown HG.out (by rw [World.size_alloc]; omega) (fun k e => by have : k = w.heap.size := (Option.some.inj e).symm; omega), ?_⟩
    have := HOW.out
    rw [Nat.zero_add, List.nil_append] at this
    rw [HRL.out]
    exact this

/-! the kids, and the end behind them -/
def CoverRow (w : World) (kd : Int) (a b : Nat) (sl : Value) (kids : List Nd) (v25 : Value) (wx : World) : Prop :=
  ∃ g cap, v25 = .slice (some ⟨g, 0, none⟩) (kids.length + 1) cap ∧ Below w.heap.size w wx ∧ g < wx.heap.size ∧
    wx.heap[w.heap.size]? = some (.cells #[.int .i64 kd, .int .i64 a, .int .i64 b, sl] 34) ∧
    ∀ j n, (ends kids b)[j]? = some n → wx.cell? ⟨g, j * 4, none⟩ = some (.int .i64 n.k) ∧ wx.cell? ⟨g, j * 4 + 1, none⟩ = some (.int .i64 n.a) ∧ wx.cell? ⟨g, j * 4 + 2, none⟩ = some (.int .i64 n.b) ∧ ∃ ko kn kc, wx.cell? ⟨g, j * 4 + 3, none⟩ = some (.slice ko kn kc)
structure PreEnd (w : World) (kd : Int) (a b : Nat) (sl : Value) (rows : List (Nd × Value)) (v : Value) (E base : Nat) (W : World) : Prop where
  below : Below w.heap.size w W
  box : W.heap[w.heap.size]? = some (.cells #[.int .i64 kd, .int .i64 a, .int .i64 b, sl] 34)
  own : W.ownsRow base 34 4 v rows.length (kidCells rows)
  lo : w.heap.size < base
  hi : base ≤ W.heap.size
  elt : ∀ j u, ([.int .i64 0, .int .i64 b, .int .i64 b, .slice none 0 0] : List Value)[j]? = some u → W.cell? ⟨E, j, none⟩ = some u
theorem step_end {w W : World} {kd : Int} {aa b : Nat} {sl : Value} {rows : List (Nd × Value)} {v : Value} {E base : Nat} {ops : Array Oper} {o : Oper} {a : Act} {K : Act → World → Prop} {Q : Exit → Act → World → Prop} {F : Prop} (hgd : o.guard = none) (s x : Operand)
    (ho : o.op = .call { callee := .builtin .append, args := #[s, x], argTypes := #[32, 32] })
    (h : PreEnd w kd aa b sl rows v E base W) (h1 : ∀ u ∈ kidCells rows, u.oneCell' = true) (hf : ∀ p ∈ rows, ∃ ko kn kc, p.2 = .slice ko kn kc) (hs : a.eval s = v) (hx : a.eval x = .slice (some ⟨E, 0, none⟩) 1 1) (hl : rows.length ≤ 20000)
    (hK : ∀ g cap w1, CoverRow w kd aa b sl (rows.map Prod.fst) (.slice (some ⟨g, 0, none⟩) (rows.length + 1) cap) w1 → K (a.put o.dst (.slice (some ⟨g, 0, none⟩) (rows.length + 1) cap)) w1) :
    if Region.wanted o (yielded ops a.tmps) = true then Oper.wp Try.prog o a W K Q else F := by
  obtain ⟨i0, hi, hz0, hz1, hz2⟩ := info_parts Try.info_node
  have hw : Region.wanted o (yielded ops a.tmps) = true := by simp [Region.wanted, hgd]
  rw [if_pos hw]
  have hbase := h.hi
  have hlo := h.lo
  obtain ⟨v', w', hr, ho2, hg, hm, hnn⟩ := run_append_moved (P := Try.prog) W base 32 o.type 34 i0 (.agg #[.int .i64 0, .int .i64 0, .int .i64 0, .slice none 0 0]) 4 48 Try.underlying32 hi hz0 hz1 hz2 rfl (by decide) v rows.length (kidCells rows)
    h.own ⟨E, 0, none⟩ 1 1 [.int .i64 0, .int .i64 b, .int .i64 b, .slice none 0 0] rfl
    (fun j u hj => by
      rw [Addr.add_lit, Nat.zero_add]
      exact h.elt j u hj)
    (fun u hu => by
      simp only [List.mem_cons, List.not_mem_nil, or_false] at hu
      rcases hu with rfl | rfl | rfl | rfl <;> rfl) (by omega) (by unfold maxLen; omega) hbase
  have hne : v' ≠ .slice none 0 0 := fun e => by have := (hnn.1 e).2; omega
  have hlt := h.own.lt
  have hcell := fun g => ho2.cells (g := g)
  have hlt2 := ho2.lt
  rcases ho2.2 with ⟨rfl, -⟩ | ⟨g, cap, cur, rfl, -⟩
  · exact absurd rfl hne
  · unfold Oper.wp execOp
    simp only [ho, resolve, invoke, builtin, Sem.run_bind, Sem.run_pure, Result.andThen_ok, List.map_toArray, List.map_cons, List.map_nil, hs, hx, hr]
    refine hK g cap w' ⟨g, cap, by rw [List.length_map], ?_, (hlt2 g rfl).2, ?_, fun j n hj => ?_⟩
    · exact h.below.grown hg (by omega) (fun k e => by have := hlt k e; omega)
    · exact (hg.block _ (by omega) (fun e => by have := hlt _ e.symm; omega)).trans h.box
    · have hx : ∀ i u, (kidCells (rows ++ [(Nd.mk 0 b b [], Value.slice none 0 0)]))[i]? = some u → w'.cell? ⟨g, i, none⟩ = some u := fun i u hi => by
        rw [kidCells_append] at hi
        have := hcell g rfl i u hi
        rwa [Addr.add_lit, Nat.zero_add] at this
      have he : ends (rows.map Prod.fst) b = (rows ++ [(Nd.mk 0 b b [], Value.slice none 0 0)]).map Prod.fst := by simp [ends]
      rw [he, List.getElem?_map] at hj
      cases hr : (rows ++ [(Nd.mk 0 b b [], Value.slice none 0 0)])[j]? with
      | none => rw [hr] at hj; simp at hj
      | some p =>
        rw [hr] at hj
        obtain rfl : p.1 = n := by simpa using hj
        obtain ⟨a1, b1, c1, d1⟩ := kidCells_get _ j p hr
        have hpf : ∃ ko kn kc, p.2 = .slice ko kn kc := by
          rcases List.mem_append.1 (List.mem_of_getElem? hr) with hp | hp
          · exact hf p hp
          · obtain rfl : p = (Nd.mk 0 b b [], Value.slice none 0 0) := by simpa using hp
            exact ⟨_, _, _, rfl⟩
        obtain ⟨ko, kn, kc, hk⟩ := hpf
        rw [hk] at d1
        exact ⟨hx _ _ a1, hx _ _ b1, hx _ _ c1, ko, kn, kc, hx _ _ d1⟩
/-- cloned first, then the end is laid -/
theorem PreEnd.first {w w1 w9 : World} {kd : Int} {a b : Nat} {sl v : Value} {rows : List (Nd × Value)} (h1 : Below w.heap.size w w1) (h2 : w1.heap[w.heap.size]? = some (.cells #[.int .i64 kd, .int .i64 a, .int .i64 b, sl] 34))
    (h3 : Below w1.heap.size w1 w9) (h4 : w9.ownsRow w1.heap.size 34 4 v rows.length (kidCells rows)) : PreEnd w kd a b sl rows v w9.heap.size w1.heap.size (w9.alloc (.cells #[.int .i64 0, .int .i64 b, .int .i64 b, .slice none 0 0] 34)) := by
  have hz := (Array.getElem?_eq_some_iff.1 h2).1
  have hs := h3.size
  refine ⟨(h1.trans (h3.mono h1.size)).alloc (by omega) _, (heap_alloc_old w9 _ (by omega)).trans ((h3.block _ hz).trans h2), h4.alloc _, hz, by rw [World.size_alloc]; omega, fun j u hj => ?_⟩
  exact (World.cell?_alloc_mark w9 _ _ (0, 0) j).trans (by simpa using hj)
/-- the end is laid first -/
theorem PreEnd.second {w w1 w9 : World} {kd : Int} {a b : Nat} {sl v : Value} {rows : List (Nd × Value)} (h1 : Below w.heap.size w w1) (h2 : w1.heap[w.heap.size]? = some (.cells #[.int .i64 kd, .int .i64 a, .int .i64 b, sl] 34))
    (h3 : Below (w1.alloc (.cells #[.int .i64 0, .int .i64 b, .int .i64 b, .slice none 0 0] 34)).heap.size (w1.alloc (.cells #[.int .i64 0, .int .i64 b, .int .i64 b, .slice none 0 0] 34)) w9)
    (h4 : w9.ownsRow (w1.alloc (.cells #[.int .i64 0, .int .i64 b, .int .i64 b, .slice none 0 0] 34)).heap.size 34 4 v rows.length (kidCells rows)) : PreEnd w kd a b sl rows v w1.heap.size (w1.alloc (.cells #[.int .i64 0, .int .i64 b, .int .i64 b, .slice none 0 0] 34)).heap.size w9 := by
  have hz := (Array.getElem?_eq_some_iff.1 h2).1
  have hs := h3.size
  have hsz : (w1.alloc (.cells #[.int .i64 0, .int .i64 b, .int .i64 b, .slice none 0 0] 34)).heap.size = w1.heap.size + 1 := World.size_alloc _ _
  refine ⟨(h1.alloc h1.size _).trans (h3.mono (by rw [hsz]; have := h1.size; omega)), (h3.block _ (by omega)).trans ((heap_alloc_old w1 _ hz).trans h2), h4, by omega, h3.size, fun j u hj => ?_⟩
  rw [h3.cell (p := ⟨w1.heap.size, j, none⟩) (by show w1.heap.size < _; omega)]
  exact (World.cell?_alloc_mark w1 _ _ (0, 0) j).trans (by simpa using hj)
theorem box_cells {w : World} {B : Nat} {x y z u : Value} {ty : TypeId} (h : w.heap[B]? = some (.cells #[x, y, z, u] ty)) : w.cell? ⟨B, 2, none⟩ = some z ∧ w.cell? ⟨B, 3, none⟩ = some u :=
  ⟨(node_cells h).2.2.1, (node_cells h).2.2.2.1⟩
theorem CoverRow.keep {w wx : World} {kd : Int} {a b : Nat} {sl : Value} {kids : List Nd} {v : Value} (h : CoverRow w kd a b sl kids v wx) : wx.cell? ⟨w.heap.size, 2, none⟩ = some (.int .i64 b) ∧ wx.cell? ⟨w.heap.size, 3, none⟩ = some sl := by
  obtain ⟨g, cap, -, -, -, hb, -⟩ := h
  exact box_cells hb
theorem box_kept {B : Nat} {W w9 : World} {x y z u : Value} {ty : TypeId} (h : W.heap[B]? = some (.cells #[x, y, z, u] ty)) (hb : Below W.heap.size W w9) : w9.cell? ⟨B, 2, none⟩ = some z ∧ w9.cell? ⟨B, 3, none⟩ = some u :=
  box_cells ((hb.block _ (Array.getElem?_eq_some_iff.1 h).1).trans h)
end Go.Proofs.Ytfjeikijmconoaa
