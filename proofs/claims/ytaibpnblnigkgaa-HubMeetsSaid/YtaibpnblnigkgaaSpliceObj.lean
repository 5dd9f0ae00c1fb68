/-
  The memory of a change's builder and of a feed, and what leaves it alone. No conditions.
-/
import Derived.Test.YtaibpnblnigkgaaChecked
import Derived.WalkLawsBesides
import Derived.Test.YtaibpnblnigkgaaSpliceLaw2
import Derived.Deep.AppendLies
import Derived.OneCell
import Derived.Lib.Strings
namespace Go.Proofs.Ytaibpnblnigkgaa
open Go.RowKit Gx

/-- only these blocks, and new ones, are changed -/
structure Chg (S : Nat → Prop) (w w' : World) : Prop where
  os : w'.os = w.os
  tape : w'.tape = w.tape
  output : w'.output = w.output
  size : w.heap.size ≤ w'.heap.size
  block : ∀ k, k < w.heap.size → ¬ S k → w'.heap[k]? = w.heap[k]?

namespace Chg
variable {S T : Nat → Prop} {w w1 w2 : World}
theorem refl (S : Nat → Prop) (w : World) : Chg S w w := ⟨rfl, rfl, rfl, Nat.le_refl _, fun _ _ _ => rfl⟩
theorem trans (h : Chg S w w1) (k : Chg T w1 w2) (ht : ∀ i, T i → S i ∨ w.heap.size ≤ i) : Chg S w w2 :=
  ⟨k.os.trans h.os, k.tape.trans h.tape, k.output.trans h.output, Nat.le_trans h.size k.size, fun i hi hs => by
    rw [k.block i (Nat.lt_of_lt_of_le hi h.size) (fun hT => by rcases ht i hT with h1 | h1; exact hs h1; omega), h.block i hi hs]⟩
theorem mono (h : Chg S w w1) (hT : ∀ i, S i → T i) : Chg T w w1 := ⟨h.os, h.tape, h.output, h.size, fun i hi ht => h.block i hi (fun hs => ht (hT i hs))⟩
theorem alloc (h : Chg S w w1) (o : Obj) : Chg S w (w1.alloc o) :=
  ⟨h.os, h.tape, h.output, Nat.le_trans h.size (by simp), fun i hi hs => by rw [heap_alloc_old w1 o (Nat.lt_of_lt_of_le hi h.size), h.block i hi hs]⟩
theorem drew (h : Chg S w w1) : Chg S w w1.drew := ⟨h.os, h.tape, h.output, h.size, h.block⟩
theorem drewN (h : Chg S w w1) (n : Nat) : Chg S w (w1.drewN n) := ⟨h.os, h.tape, h.output, h.size, h.block⟩
theorem set (h : Chg S w w1) {a : Addr} (ha : S a.block ∨ w.heap.size ≤ a.block) (v : Value) : Chg S w (w1.setCell a v) :=
  ⟨h.os, h.tape, h.output, by simpa [World.setCell] using h.size, fun i hi hs => by
    have hne : a.block ≠ i := by rintro rfl; rcases ha with h1 | h1; exact hs h1; omega
    rw [← h.block i hi hs]
    simp [World.setCell, Array.getElem?_modify, hne]⟩
theorem grown (h : Chg S w w1) {row : Option Nat} (hg : w1.grownBy w2 row) (hr : ∀ k, row = some k → S k ∨ w.heap.size ≤ k) : Chg S w w2 :=
  h.trans (T := fun k => row = some k) ⟨hg.os, hg.tape, hg.output, hg.size, fun i hi hs => hg.block i hi (fun e => hs e.symm)⟩ hr
theorem below (h : Chg S w w1) {B : Nat} (hB : B ≤ w.heap.size) (hS : ∀ i, S i → B ≤ i) : Below B w w1 :=
  ⟨h.os, h.tape, h.output, h.size, fun i hi => h.block i (by omega) (fun hs => by have := hS i hs; omega)⟩
theorem of_below (h : Below w.heap.size w w1) : Chg S w w1 := ⟨h.os, h.tape, h.output, h.size, fun i hi _ => h.block i hi⟩
theorem cell (h : Chg S w w1) {a : Addr} (ha : a.block < w.heap.size) (hs : ¬ S a.block) : w1.cell? a = w.cell? a := World.cell?_of_block (h.block _ ha hs)
theorem frozen (h : Chg S w w1) {a : Addr} (ha : a.block < w.heap.size) (hs : ¬ S a.block) : w1.frozen? a = w.frozen? a := World.frozen?_of_block (h.block _ ha hs)
end Chg

def bs (l : List UInt8) : ByteArray := ⟨l.toArray⟩
theorem bs_list (s : ByteArray) : bs s.data.toList = s := rfl
theorem list_bs (l : List UInt8) : (bs l).data.toList = l := rfl
theorem bs_size (l : List UInt8) : (bs l).size = l.length := by simp [bs, ByteArray.size]
theorem bs_inj {a b : List UInt8} (h : bs a = bs b) : a = b := by rw [← list_bs a, h, list_bs]
theorem bs_append (a b : List UInt8) : bs a ++ bs b = bs (a ++ b) := by
  apply ByteArray.ext
  simp [bs, ByteArray.data_append]
theorem bs_extract (l : List UInt8) (i j : Nat) : (bs l).extract i j = bs ((l.take j).drop i) := by
  apply ByteArray.ext
  simp only [bs, ByteArray.data_extract, List.extract_toArray]
  simp [List.extract_eq_take_drop, List.drop_take]
theorem bs_isEmpty (p : List UInt8) (h : p ≠ []) : (bs p).toList.isEmpty = false := by
  rw [Lib.toList_data, list_bs]
  cases p with
  | nil => exact absurd rfl h
  | cons a l => rfl
theorem bs_nil_isEmpty : (bs []).toList.isEmpty = true := by rw [Lib.toList_data, list_bs]; rfl

def partVal (q : Part) : Value := .agg #[.int .i64 q.1, .int .i64 q.2.1, .string (bs q.2.2)]
def part3 (q : Part) : List Value := [.int .i64 q.1, .int .i64 q.2.1, .string (bs q.2.2)]
def partCells (l : List Part) : List Value := l.flatMap part3
theorem partCells_snoc (l : List Part) (q : Part) : partCells (l ++ [q]) = partCells l ++ part3 q := by simp [partCells]
theorem partCells_cons (q : Part) (l : List Part) : partCells (q :: l) = part3 q ++ partCells l := rfl
theorem partCells_len (l : List Part) : (partCells l).length = l.length * 3 := by
  induction l with
  | nil => rfl
  | cons t l ih => rw [partCells_cons, List.length_append, ih, List.length_cons]; simp [part3]; omega
theorem partCells_at (l : List Part) (j : Nat) (q : Part) (h : l[j]? = some q) : (partCells l)[j * 3]? = some (.int .i64 q.1) ∧ (partCells l)[j * 3 + 1]? = some (.int .i64 q.2.1) ∧ (partCells l)[j * 3 + 2]? = some (.string (bs q.2.2)) := by
  induction l generalizing j with
  | nil => simp at h
  | cons t l ih =>
    rw [partCells_cons]
    cases j with
    | zero => simp at h; subst h; simp [part3]
    | succ j =>
      obtain ⟨h1, h2, h3⟩ := ih j (by simpa using h)
      have hl : (part3 t).length = 3 := rfl
      rw [List.getElem?_append_right (by omega), List.getElem?_append_right (by omega), List.getElem?_append_right (by omega), hl]
      rw [show (j + 1) * 3 - 3 = j * 3 by omega, show (j + 1) * 3 + 1 - 3 = j * 3 + 1 by omega, show (j + 1) * 3 + 2 - 3 = j * 3 + 2 by omega]
      exact ⟨h1, h2, h3⟩
theorem partCells_one (l : List Part) : ∀ u ∈ partCells l, u.oneCell' = true := by
  intro u hu
  simp only [partCells, List.mem_flatMap] at hu
  obtain ⟨q, _, hq⟩ := hu
  simp [part3] at hq
  rcases hq with rfl | rfl | rfl <;> rfl

theorem Try.info_part : (Try.prog.info? 54).map (fun i => (i.zero, i.size, i.bytes)) = some (some (.agg #[.int .i64 0, .int .i64 0, .string ⟨#[]⟩]), 3, 32) := by kernel_rfl

/-- a builder lies at g, in the blocks F -/
structure Bd (w : World) (base : Nat) (F : Nat → Prop) (g : Nat) (st : Bst) (v : Value) : Prop where
  cells : w.heap[g]? = some (.cells #[v, .int .i64 st.2.1, .string (bs st.2.2)] 86 (0, 0))
  own : w.ownsRow base 54 3 v st.1.length (partCells st.1)
  ne : v.ownBlock ≠ some g
  fg : F g
  fv : ∀ k, v.ownBlock = some k → F k
  low : ∀ k, F k → base ≤ k ∧ k < w.heap.size

/-- through what does not touch its blocks -/
theorem Bd.keep {w w' : World} {base : Nat} {F S : Nat → Prop} {g : Nat} {st : Bst} {v : Value} (h : Bd w base F g st v) (hc : Chg S w w') (hd : ∀ k, F k → ¬ S k) : Bd w' base F g st v := by
  refine ⟨?_, ?_, h.ne, h.fg, h.fv, fun k hk => ⟨(h.low k hk).1, Nat.lt_of_lt_of_le (h.low k hk).2 hc.size⟩⟩
  · rw [hc.block g (h.low g h.fg).2 (hd g h.fg)]; exact h.cells
  · refine ⟨h.own.1, ?_⟩
    rcases h.own.2 with h2 | ⟨r, cap, cur, hv, hr, hh, rest⟩
    · exact .inl h2
    · refine .inr ⟨r, cap, cur, hv, hr, ?_, rest⟩
      have hF : F r := h.fv r (by rw [hv]; rfl)
      rw [hc.block r (h.low r hF).2 (hd r hF)]; exact hh

theorem heap_setCell (w : World) (g off : Nat) (u : Value) (cs : Array Value) (t : TypeId) (fr : Nat × Nat) (h : w.heap[g]? = some (.cells cs t fr)) :
    (w.setCell ⟨g, off, none⟩ u).heap[g]? = some (.cells (cs.setIfInBounds off u) t fr) := by
  simp [World.setCell, Array.getElem?_modify, h]
theorem heap_setCell_ne (w : World) (a : Addr) (k : Nat) (u : Value) (h : a.block ≠ k) : (w.setCell a u).heap[k]? = w.heap[k]? := by
  simp [World.setCell, Array.getElem?_modify, h]
theorem frozen_of_row (w : World) (g j : Nat) (cs : Array Value) (t : TypeId) (hg : w.heap[g]? = some (.cells cs t (0, 0))) : w.frozen? ⟨g, j, none⟩ = false := by
  simp [World.frozen?, hg]

theorem Bd.cell0 {w : World} {base : Nat} {F : Nat → Prop} {g : Nat} {st : Bst} {v : Value} (h : Bd w base F g st v) : w.cell? ⟨g, 0, none⟩ = some v := by rw [cell_of_row w g 0 _ _ _ h.cells]; rfl
theorem Bd.cell1 {w : World} {base : Nat} {F : Nat → Prop} {g : Nat} {st : Bst} {v : Value} (h : Bd w base F g st v) : w.cell? ⟨g, 1, none⟩ = some (.int .i64 st.2.1) := by rw [cell_of_row w g 1 _ _ _ h.cells]; rfl
theorem Bd.cell2 {w : World} {base : Nat} {F : Nat → Prop} {g : Nat} {st : Bst} {v : Value} (h : Bd w base F g st v) : w.cell? ⟨g, 2, none⟩ = some (.string (bs st.2.2)) := by rw [cell_of_row w g 2 _ _ _ h.cells]; rfl
theorem Bd.froz {w : World} {base : Nat} {F : Nat → Prop} {g : Nat} {st : Bst} {v : Value} (h : Bd w base F g st v) (j : Nat) : w.frozen? ⟨g, j, none⟩ = false := frozen_of_row w g j _ _ h.cells
theorem Bd.form {w : World} {base : Nat} {F : Nat → Prop} {g : Nat} {st : Bst} {v : Value} (h : Bd w base F g st v) : ∃ vo vc, v = .slice vo st.1.length vc := own_form h.own
theorem Bd.lt {w : World} {base : Nat} {F : Nat → Prop} {g : Nat} {st : Bst} {v : Value} (h : Bd w base F g st v) : g < w.heap.size := (h.low g h.fg).2

/-- an element more, at the end -/
theorem Bd.pushed {w w1 : World} {base : Nat} {F : Nat → Prop} {g : Nat} {st : Bst} {v : Value} (h : Bd w base F g st v) {w0 : World} (hc0 : Chg (fun _ => False) w w0) (q : Part) (g2 cap2 : Nat)
    (hown : w1.ownsRow base 54 3 (.slice (some ⟨g2, 0, none⟩) (st.1.length + 1) cap2) (st.1.length + 1) (partCells st.1 ++ part3 q)) (hg : w0.grownBy w1 v.ownBlock) (hat : v.ownBlock = some g2 ∨ g2 = w0.heap.size) (hlt : g2 < w1.heap.size) :
    Bd (w1.setCell ⟨g, 0, none⟩ (.slice (some ⟨g2, 0, none⟩) (st.1.length + 1) cap2)) base (fun k => F k ∨ (k = g2 ∧ w.heap.size ≤ k)) g (st.1 ++ [q], st.2.1, st.2.2) (.slice (some ⟨g2, 0, none⟩) (st.1.length + 1) cap2) ∧
    Chg F w (w1.setCell ⟨g, 0, none⟩ (.slice (some ⟨g2, 0, none⟩) (st.1.length + 1) cap2)) := by
  have hlow := h.low g h.fg
  have hs0 := hc0.size
  have hgc : w1.heap[g]? = some (.cells #[v, .int .i64 st.2.1, .string (bs st.2.2)] 86 (0, 0)) := by
    rw [hg.block g (by omega) (fun e => h.ne e.symm), hc0.block g hlow.2 (fun f => f)]; exact h.cells
  have hne : g2 ≠ g := by
    rcases hat with hat | hat
    · intro e; subst e; exact h.ne hat
    · omega
  have hF2 : F g2 ∨ w.heap.size ≤ g2 := by
    rcases hat with hat | hat
    · exact .inl (h.fv g2 hat)
    · right; omega
  have hch : Chg F w w1 := (hc0.mono (fun _ f => f.elim)).grown hg (fun k e => .inl (h.fv k e))
  refine ⟨⟨?_, ?_, ?_, .inl h.fg, ?_, ?_⟩, hch.set (.inl h.fg) _⟩
  · rw [heap_setCell w1 g 0 _ _ _ _ hgc]; rfl
  · simp only [List.length_append, List.length_cons, List.length_nil, Nat.zero_add, partCells_snoc]
    exact ownsRow_setCell_other hown (by simp [Value.ownBlock]; exact hne) _
  · simp [Value.ownBlock]; exact hne
  · intro k hk
    obtain rfl : g2 = k := by simpa [Value.ownBlock] using hk
    rcases hF2 with h1 | h1
    · exact .inl h1
    · exact .inr ⟨rfl, h1⟩
  · have hsz : (w1.setCell ⟨g, 0, none⟩ (.slice (some ⟨g2, 0, none⟩) (st.1.length + 1) cap2)).heap.size = w1.heap.size := by simp [World.setCell]
    intro k hk
    rw [hsz]
    rcases hk with hk | ⟨rfl, hk⟩
    · exact ⟨(h.low k hk).1, Nat.lt_of_lt_of_le (h.low k hk).2 (Nat.le_trans hs0 hg.size)⟩
    · exact ⟨(hown.lt k rfl).1, hlt⟩
end Go.Proofs.Ytaibpnblnigkgaa
