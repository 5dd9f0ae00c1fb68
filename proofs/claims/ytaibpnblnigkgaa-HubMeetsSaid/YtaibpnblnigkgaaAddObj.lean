/-
  What a builder's add does to memory. No conditions.
-/
import Derived.Test.YtaibpnblnigkgaaSplice1
namespace Go.Proofs.Ytaibpnblnigkgaa
open Go.RowKit Gx

structure Small (st : Bst) (q : Part) : Prop where
  l : st.1.length ≤ 100000
  c : st.2.1 ≤ 100000
  p : st.2.2.length ≤ 100000
  n : q.2.1 ≤ 100000
  s : q.2.2.length ≤ 100000
  k : ∀ x ∈ st.1, 0 ≤ x.2.1 ∧ x.2.1 ≤ 100000

theorem Bd.drew {w : World} {base : Nat} {F : Nat → Prop} {g : Nat} {st : Bst} {v : Value} (h : Bd w base F g st v) : Bd w.drew base F g st v := ⟨h.cells, h.own.drew, h.ne, h.fg, h.fv, h.low⟩
theorem Bd.putTo {w : World} {base : Nat} {F : Nat → Prop} {g : Nat} {st : Bst} {v : Value} (h : Bd w base F g st v) (p : List UInt8) :
    Bd (w.setCell ⟨g, 2, none⟩ (.string (bs p))) base F g (st.1, st.2.1, p) v := by
  refine ⟨?_, ?_, h.ne, h.fg, h.fv, fun k hk => ?_⟩
  · rw [heap_setCell _ g 2 _ _ _ _ h.cells]; rfl
  · exact ownsRow_setCell_other h.own h.ne _
  · have := h.low k hk
    simpa [World.setCell] using this
theorem Bd.cutTo {w : World} {base : Nat} {F : Nat → Prop} {g : Nat} {st : Bst} {v : Value} (h : Bd w base F g st v) (c : Nat) :
    Bd (w.setCell ⟨g, 1, none⟩ (.int .i64 c)) base F g (st.1, c, st.2.2) v := by
  refine ⟨?_, ?_, h.ne, h.fg, h.fv, fun k hk => ?_⟩
  · rw [heap_setCell _ g 1 _ _ _ _ h.cells]; rfl
  · exact ownsRow_setCell_other h.own h.ne _
  · have := h.low k hk
    simpa [World.setCell] using this

theorem set_mid (a b : List Value) (u v : Value) (i : Nat) (hi : i = a.length) : (a ++ u :: b).set i v = a ++ v :: b := by
  subst hi
  rw [List.set_append_right _ _ (Nat.le_refl _), Nat.sub_self]; rfl

/-- the last part keeps n more -/
theorem Bd.more {w : World} {base : Nat} {F : Nat → Prop} {g : Nat} {st : Bst} {v : Value} (h : Bd w base F g st v) (m : List Part) (z : Part) (hm : st.1 = m ++ [z]) (x : Int) (r cap : Nat) (hv : v = .slice (some ⟨r, 0, none⟩) st.1.length cap) :
    Bd (w.setCell ⟨r, m.length * 3 + 1, none⟩ (.int .i64 x)) base F g (m ++ [(z.1, x, z.2.2)], st.2.1, st.2.2) v ∧ Chg F w (w.setCell ⟨r, m.length * 3 + 1, none⟩ (.int .i64 x)) := by
  have hne : r ≠ g := by intro e; apply h.ne; rw [hv, e]; rfl
  have hown := h.own
  rw [hv] at hown
  have hst := hown.stored (m.length * 3 + 1) (.int .i64 x)
  refine ⟨⟨?_, ?_, h.ne, h.fg, h.fv, fun k hk => ?_⟩, (Chg.refl F w).set (.inl (h.fv r (by rw [hv]; rfl))) _⟩
  · rw [heap_setCell_ne _ _ _ _ hne]; exact h.cells
  · have e : (partCells st.1).set (m.length * 3 + 1) (.int .i64 x) = partCells (m ++ [(z.1, x, z.2.2)]) := by
      rw [hm, partCells_snoc, partCells_snoc]
      show (partCells m ++ (Value.int .i64 z.1 :: Value.int .i64 z.2.1 :: [Value.string (bs z.2.2)])).set _ _ = _
      rw [show partCells m ++ (Value.int .i64 z.1 :: Value.int .i64 z.2.1 :: [Value.string (bs z.2.2)]) = (partCells m ++ [Value.int .i64 z.1]) ++ Value.int .i64 z.2.1 :: [Value.string (bs z.2.2)] by simp]
      rw [set_mid _ _ _ _ _ (by simp [partCells_len])]
      simp [part3]
    have hl : (m ++ [(z.1, x, z.2.2)]).length = st.1.length := by rw [hm]; simp
    rw [hv]
    show World.ownsRow _ base _ 3 _ (m ++ [(z.1, x, z.2.2)]).length _
    rw [hl, ← e]
    exact hst.1
  · have := h.low k hk
    simpa [World.setCell] using this

theorem keepOn_last (m : List Part) (z : Part) (n : Nat) : keepOn (m ++ [z]) n = if z.1 = 1 then m ++ [(1, z.2.1 + n, z.2.2)] else (m ++ [z]) ++ [(1, (n : Int), [])] := by
  unfold keepOn
  simp
theorem keepOn_nil (n : Nat) : keepOn [] n = [(1, (n : Int), [])] := rfl
end Go.Proofs.Ytaibpnblnigkgaa
