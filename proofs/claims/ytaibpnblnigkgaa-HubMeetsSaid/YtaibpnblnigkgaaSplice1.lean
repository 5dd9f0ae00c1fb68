/-
  The contracts of the builder's flush, add, done. Conditions: the builder lies in memory of the call's own.
-/
import Derived.Test.YtaibpnblnigkgaaSpliceObj
import Derived.Deep.RegionLaw
import Derived.Lib.Strings
namespace Go.Proofs.Ytaibpnblnigkgaa
open Go.RowKit Gx

/-- what an operation on a builder leaves -/
def BdPost (w : World) (base : Nat) (F : Nat → Prop) (g : Nat) (st : Bst) (e : Ending) (w' : World) : Prop :=
  e = .returned (.tuple #[]) ∧ ∃ F' v', Bd w' base F' g st v' ∧ (∀ k, F' k → F k ∨ w.heap.size ≤ k) ∧ Chg F w w'

/-- the cut and the put are taken away -/
theorem Bd.cleared {w : World} {base : Nat} {F : Nat → Prop} {g : Nat} {st : Bst} {v : Value} (h : Bd w base F g st v) :
    Bd ((w.setCell ⟨g, 1, none⟩ (.int .i64 0)).setCell ⟨g, 2, none⟩ (.string ⟨#[]⟩)) base F g (st.1, 0, []) v := by
  refine ⟨?_, ?_, h.ne, h.fg, h.fv, fun k hk => ?_⟩
  · rw [heap_setCell _ g 2 _ _ _ _ (heap_setCell _ g 1 _ _ _ _ h.cells)]; rfl
  · exact ownsRow_setCell_other (ownsRow_setCell_other h.own h.ne _) h.ne _
  · have := h.low k hk
    simpa [World.setCell] using this

theorem chg_laid (w : World) (o : Obj) : Chg (fun _ => False) w (w.alloc o).drew := ((Chg.refl _ w).alloc o).drew

/-- what is known behind an append to a builder's parts, ahead of the store -/
structure Pushed (w : World) (base : Nat) (F : Nat → Prop) (g : Nat) (st : Bst) (v : Value) (q : Part) (g2 cap2 : Nat) (w1 : World) : Prop where
  bd : Bd (w1.setCell ⟨g, 0, none⟩ (.slice (some ⟨g2, 0, none⟩) (st.1.length + 1) cap2)) base (fun k => F k ∨ (k = g2 ∧ w.heap.size ≤ k)) g (st.1 ++ [q], st.2.1, st.2.2) (.slice (some ⟨g2, 0, none⟩) (st.1.length + 1) cap2)
  chg : Chg F w (w1.setCell ⟨g, 0, none⟩ (.slice (some ⟨g2, 0, none⟩) (st.1.length + 1) cap2))

/-- 'b.out = append(b.out, q)', at a step of a region that draws -/
theorem step_push {w : World} {base : Nat} {F : Nat → Prop} {g : Nat} {st : Bst} {v : Value} {ops : Array Oper} {o : Oper} {a : Act} {K : Act → World → Prop} {Q : Exit → Act → World → Prop} {E : Prop} (hgd : o.guard = none) (s x : Operand)
    (ho : o.op = .call { callee := .builtin .append, args := #[s, x], argTypes := #[29, 29] })
    (HB : Bd w base F g st v) (hb : base ≤ w.heap.size) (q : Part) (o' : Obj) (ho' : o' = .cells (part3 q).toArray 54) (hs : a.eval s = v) (hx : a.eval x = .slice (some ⟨w.heap.size, 0, none⟩) 1 1)
    (hl : st.1.length ≤ 200000)
    (h : ∀ g2 cap2 w1, Pushed w base F g st v q g2 cap2 w1 → w1.cell? ⟨g, 0, none⟩ = some v → w1.frozen? ⟨g, 0, none⟩ = false → K (a.put o.dst (.slice (some ⟨g2, 0, none⟩) (st.1.length + 1) cap2)) w1) :
    if Region.wanted o (yielded ops a.tmps) = true then Oper.wp Try.prog o a (w.alloc o').drew K Q else E := by
  obtain ⟨i0, hi, hz0, hz1, hz2⟩ := info_parts Try.info_part
  subst ho'
  refine step_append_lies (P := Try.prog) (w.alloc (.cells (part3 q).toArray 54)).drew hgd s x 29 ho base 54 i0 (.agg #[.int .i64 0, .int .i64 0, .string ⟨#[]⟩]) 3 32 Try.underlying29 hi hz0 hz1 hz2 rfl (by decide) v st.1.length (partCells st.1) hs
    (by exact (HB.own.alloc _).drew) ⟨w.heap.size, 0, none⟩ 1 1 (part3 q) hx rfl ?_ ?_ (by decide) (by unfold maxLen; omega) (by omega) ?_ _ rfl ?_
  · intro j u hj
    rw [Addr.add_lit]
    exact (World.cell?_alloc_mark w _ _ (0, 0) (0 + j)).trans (by simpa using hj)
  · intro u hu
    exact partCells_one [q] u (by simpa [partCells] using hu)
  · have h1 : (w.alloc (.cells (part3 q).toArray 54)).drew.heap.size = w.heap.size + 1 := by simp [World.drew]
    omega
  · intro g2 cap2 w1 hown1 hg1 hat hlt1
    have hps := HB.pushed (chg_laid w _) q g2 cap2 hown1 hg1 hat hlt1
    have h1 : (w.alloc (.cells (part3 q).toArray 54)).drew.heap.size = w.heap.size + 1 := by simp [World.drew]
    have hlt := HB.lt
    refine h g2 cap2 w1 ⟨hps.1, hps.2⟩ ?_ ?_
    · rw [hg1.cell_far ⟨g, 0, none⟩ (by show g < _; omega) (fun e => HB.ne e.symm)]
      exact (World.cell?_alloc_past _ g 0 hlt).trans HB.cell0
    · rw [hg1.frozen_far ⟨g, 0, none⟩ (by show g < _; omega) (fun e => HB.ne e.symm)]
      exact (World.frozen?_alloc_past _ g 0 hlt).trans (HB.froz 0)

/-- the end of a flush -/
theorem flush_end {w X : World} {base : Nat} {F F2 : Nat → Prop} {g : Nat} {st : Bst} {l : List Part} {c : Nat} {p : List UInt8} {v : Value} (h : Bd X base F2 g (l, c, p) v) (hc : Chg F w X) (hg : F g) (hF : ∀ k, F2 k → F k ∨ w.heap.size ≤ k) (hl : l = (flushS st).1) :
    BdPost w base F g (flushS st) (.returned (.tuple #[])) ((X.setCell ⟨g, 1, none⟩ (.int .i64 0)).setCell ⟨g, 2, none⟩ (.string ⟨#[]⟩)) := by
  subst hl
  exact ⟨rfl, F2, v, h.cleared, hF, (hc.set (.inl hg) _).set (.inl hg) _⟩

set_option maxHeartbeats 4000000 in
theorem flush_any (w : World) (base : Nat) (F : Nat → Prop) (g : Nat) (st : Bst) (v : Value) (h : Bd w base F g st v) (hb : base ≤ w.heap.size) (hs : st.1.length ≤ 100000) (hc : st.2.1 ≤ 100000) :
    Calls Try.prog 43 #[.pointer (some ⟨g, 0, none⟩)] w (BdPost w base F g (flushS st)) := by
  have c0 := h.cell0
  have c1 := h.cell1
  have c2 := h.cell2
  have f0 := h.froz 0
  have f1 := h.froz 1
  have f2 := h.froz 2
  have hlt := h.lt
  obtain ⟨vo, vc, rfl⟩ := h.form
  have HB := Lib.hid h
  clear h
  obtain ⟨l, c, p⟩ := st
  simp only at c0 c1 c2 hs hc HB
  by_cases hp : p = []
  · subst hp
    have hpe := bs_nil_isEmpty
    by_cases hc0 : c = 0
    · subst hc0
      go_enter Try.func43, Try.ntmps43
      go_wp2
      go_end0
      exact flush_end HB.out (Chg.refl F w) HB.out.fg (fun k hk => .inl hk) (by simp [flushS, putOut, cutOut])
    · have hcp : decide (0 < (c : Int)) = true := decide_eq_true (by omega)
      go_enter Try.func43, Try.ntmps43
      go_wp2_with fail
      go_region_law (refine step_push rfl (.tmp 30) (.tmp 36) rfl HB.out (by omega) (2, (c : Int), []) _ rfl rfl rfl (by first | exact Nat.le_trans hs (by decide) | (simp only [List.length_append, List.length_cons, List.length_nil]; omega)) ?_; intro g2 cap2 w2 HP2 hc2 hf2)
      all_goals
        have hb2 := HP2.bd
        have hch2 := HP2.chg
        simp only [List.length_append, List.length_cons, List.length_nil, Nat.zero_add] at hb2 hch2
        obtain ⟨z2, hz2⟩ : ∃ z, z = w2.setCell ⟨g, 0, none⟩ (.slice (some ⟨g2, 0, none⟩) (l.length + 1) cap2) := ⟨_, rfl⟩
        rw [← hz2] at hb2 hch2 ⊢
        have hsz2 := hch2.size
        have HB2 := Lib.hid hb2
        have HC2 := Lib.hid hch2
        clear HP2 hc2 hf2 hb2 hch2 hz2
        have c02 := HB2.out.cell0
        have c12 := HB2.out.cell1
        have c22 := HB2.out.cell2
        have f02 := HB2.out.froz 0
        have f12 := HB2.out.froz 1
        have f22 := HB2.out.froz 2
        have hlt2 := HB2.out.lt
        simp only at c02 c12 c22
        go_wp2
        go_end0
        exact flush_end HB2.out HC2.out HB.out.fg (fun k hk => hk.imp id (·.2)) (by simp [flushS, putOut, cutOut, hc0])

  · have hpe := bs_isEmpty p hp
    by_cases hc0 : c = 0
    · subst hc0
      go_enter Try.func43, Try.ntmps43
      go_wp2_with fail
      go_region_law (refine step_push rfl (.tmp 11) (.tmp 17) rfl HB.out (by omega) (3, 0, p) _ rfl rfl rfl (by first | exact Nat.le_trans hs (by decide) | (simp only [List.length_append, List.length_cons, List.length_nil]; omega)) ?_; intro g2 cap2 w2 HP2 hc2 hf2)
      all_goals
        have hb2 := HP2.bd
        have hch2 := HP2.chg
        simp only [List.length_append, List.length_cons, List.length_nil, Nat.zero_add] at hb2 hch2
        obtain ⟨z2, hz2⟩ : ∃ z, z = w2.setCell ⟨g, 0, none⟩ (.slice (some ⟨g2, 0, none⟩) (l.length + 1) cap2) := ⟨_, rfl⟩
        rw [← hz2] at hb2 hch2 ⊢
        have hsz2 := hch2.size
        have HB2 := Lib.hid hb2
        have HC2 := Lib.hid hch2
        clear HP2 hc2 hf2 hb2 hch2 hz2
        have c02 := HB2.out.cell0
        have c12 := HB2.out.cell1
        have c22 := HB2.out.cell2
        have f02 := HB2.out.froz 0
        have f12 := HB2.out.froz 1
        have f22 := HB2.out.froz 2
        have hlt2 := HB2.out.lt
        simp only at c02 c12 c22
        go_wp2
        go_end0
        exact flush_end HB2.out HC2.out HB.out.fg (fun k hk => hk.imp id (·.2)) (by simp [flushS, putOut, cutOut, hp])

    · have hcp : decide (0 < (c : Int)) = true := decide_eq_true (by omega)
      go_enter Try.func43, Try.ntmps43
      go_wp2_with fail
      go_region_law (refine step_push rfl (.tmp 11) (.tmp 17) rfl HB.out (by omega) (3, 0, p) _ rfl rfl rfl (by first | exact Nat.le_trans hs (by decide) | (simp only [List.length_append, List.length_cons, List.length_nil]; omega)) ?_; intro g2 cap2 w2 HP2 hc2 hf2)
      all_goals
        have hb2 := HP2.bd
        have hch2 := HP2.chg
        simp only [List.length_append, List.length_cons, List.length_nil, Nat.zero_add] at hb2 hch2
        obtain ⟨z2, hz2⟩ : ∃ z, z = w2.setCell ⟨g, 0, none⟩ (.slice (some ⟨g2, 0, none⟩) (l.length + 1) cap2) := ⟨_, rfl⟩
        rw [← hz2] at hb2 hch2 ⊢
        have hsz2 := hch2.size
        have HB2 := Lib.hid hb2
        have HC2 := Lib.hid hch2
        clear HP2 hc2 hf2 hb2 hch2 hz2
        have c02 := HB2.out.cell0
        have c12 := HB2.out.cell1
        have c22 := HB2.out.cell2
        have f02 := HB2.out.froz 0
        have f12 := HB2.out.froz 1
        have f22 := HB2.out.froz 2
        have hlt2 := HB2.out.lt
        simp only at c02 c12 c22
        go_wp2_with fail
        go_region_law (refine step_push rfl (.tmp 30) (.tmp 36) rfl HB2.out (by omega) (2, (c : Int), []) _ rfl rfl rfl (by first | exact Nat.le_trans hs (by decide) | (simp only [List.length_append, List.length_cons, List.length_nil]; omega)) ?_; intro g3 cap3 w3 HP3 hc3 hf3)
        all_goals
          have hb3 := HP3.bd
          have hch3 := HP3.chg
          simp only [List.length_append, List.length_cons, List.length_nil, Nat.zero_add] at hb3 hch3
          obtain ⟨z3, hz3⟩ : ∃ z, z = w3.setCell ⟨g, 0, none⟩ (.slice (some ⟨g3, 0, none⟩) (l.length + 1 + 1) cap3) := ⟨_, rfl⟩
          rw [← hz3] at hb3 hch3 ⊢
          have hsz3 := hch3.size
          have HB3 := Lib.hid hb3
          have HC3 := Lib.hid hch3
          clear HP3 hc3 hf3 hb3 hch3 hz3
          have c03 := HB3.out.cell0
          have c13 := HB3.out.cell1
          have c23 := HB3.out.cell2
          have f03 := HB3.out.froz 0
          have f13 := HB3.out.froz 1
          have f23 := HB3.out.froz 2
          have hlt3 := HB3.out.lt
          simp only at c03 c13 c23
          go_wp2
          go_end0
          exact flush_end HB3.out (HC2.out.trans HC3.out (fun k hk => hk.imp id (·.2))) HB.out.fg (fun k hk => by rcases hk with (hk | hk) | hk; exact .inl hk; exact .inr hk.2; exact .inr (by omega)) (by simp [flushS, putOut, cutOut, hp, hc0])

end Go.Proofs.Ytaibpnblnigkgaa
