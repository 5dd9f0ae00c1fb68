/-
  Plain law: what a reader tells failed with form or depth, at a token's place or the text's end. And the statements' first question. Condition: a variable of the library's holds some integer.
-/
import Derived.Test.YtfjeikijmconoaaTreeParse
namespace Go.Proofs.Ytfjeikijmconoaa
open Go.RowKit Gx
set_option maxRecDepth 100000

def Told (X : TS) (s : PS) : Prop := s.bad = 0 ∨ ((s.bad = 4 ∨ s.bad = 5) ∧ ∃ j, s.wh = X.pos j)
def Tells (X : TS) (f : PS → PS) : Prop := ∀ s, Told X s → Told X (f s)
theorem fail_tells (X : TS) (e : Int) (he : e = 4 ∨ e = 5) : Tells X (PS.fail X e) := fun s h => by
  unfold PS.fail
  split
  · exact h
  · exact .inr ⟨he, _, rfl⟩
theorem leaf_tells (X : TS) (k : Int) : Tells X fun s => (leafS X k s).1 := fun s h => by
  dsimp only
  unfold leafS
  split
  · exact h
  · exact fail_tells X 4 (.inl rfl) _ h
theorem colon_tells (X : TS) : Tells X (colonS X) := fun s h => by
  unfold colonS
  split
  · exact fail_tells X 4 (.inl rfl) _ h
  · exact h
theorem many_tells {X : TS} {kid : PS → PS × Nd} (hk : Tells X fun s => (kid s).1) (e : UInt8) : ∀ (f : Nat) (s : PS) (ks : List Nd), Told X s → Told X (manyS X kid e f s ks).1
  | 0, s, ks, h => fail_tells X 4 (.inl rfl) _ h
  | f + 1, s, ks, h => by
    unfold manyS
    split
    · exact h
    · have h1 := hk (s.skip X) h
      split
      · exact many_tells hk e f _ _ h1
      · split
        · exact many_tells hk e f _ _ h1
        · exact many_tells hk e f _ _ (fail_tells X 4 (.inl rfl) _ h1)
theorem entry_tells {X : TS} {val : PS → PS × Nd} (hv : Tells X fun s => (val s).1) : Tells X fun s => (entryS X val s).1 := fun s h => by
  dsimp only
  rw [entry_eq]
  unfold entryT
  have h1 := colon_tells X _ (show Told X ((leafS X 2 s).1.skip X) from leaf_tells X 2 s h)
  split
  · exact h1
  · exact hv _ h1
theorem value_tells (X : TS) : ∀ r, Tells X fun s => (valueS X r s).1
  | 0 => fun s h => by
    dsimp only
    unfold valueS
    split
    · exact fail_tells X 5 (.inr rfl) _ h
    · exact leaf_tells X 1 _ h
  | r + 1 => fun s h => by
    have ih := value_tells X r
    dsimp only
    unfold valueS
    split
    · exact many_tells (entry_tells ih) 125 _ (s.skip X).inc [] h
    · split
      · exact many_tells ih 93 _ (s.skip X).inc [] h
      · exact leaf_tells X 1 _ h
theorem parse_told (X : TS) : Told X (parseS X) := by
  have h := value_tells X 20 ⟨0, 0, 0⟩ (.inl rfl)
  dsimp only at h
  unfold parseS endS
  split
  · exact fail_tells X 4 (.inl rfl) _ h
  · exact h
theorem pos_le (l : List UInt8) (F j : Nat) : (treeOf l F).pos j ≤ l.length := by
  by_cases hj : j < (treeOf l F).T.length
  · exact Nat.le_of_lt (tree_pos l F j hj)
  · unfold TS.pos
    rw [List.getElem?_eq_none (by omega)]
    exact Nat.le_refl _
/-- THE LAW: told at a place within the text, or at its end; and ahead of that place it is whole, or ends too early -/
theorem first_law (l : List UInt8) : (parseS (treeX l)).bad ≠ 0 → (parseS (treeX l)).wh ≤ l.length ∧ ((parseS (treeX l)).bad = 5 ∨ ((parseS (treeX l)).bad = 4 ∧ ((parseS (treeX l)).wh = l.length ∨ ((parseS (treeX l)).wh < l.length ∧
    ((parseS (treeX (l.take (parseS (treeX l)).wh))).bad = 0 ∨ ((parseS (treeX (l.take (parseS (treeX l)).wh))).bad = 4 ∧ (parseS (treeX (l.take (parseS (treeX l)).wh))).wh = (parseS (treeX l)).wh)))))) := fun hb => by
  rcases parse_told (treeX l) with h | ⟨h45, j, hj⟩
  · exact absurd h hb
  · have hle : (parseS (treeX l)).wh ≤ l.length := by rw [hj]; exact pos_le l 30000 j
    refine ⟨hle, ?_⟩
    rcases h45 with h4 | h5
    · refine .inr ⟨h4, ?_⟩
      by_cases hlt : j < (treeX l).T.length
      · right
        refine ⟨by rw [hj]; exact tree_pos l 30000 j hlt, ?_⟩
        have := tree_first l 30000 j hlt ⟨h4, hj⟩
        rw [hj]
        exact this
      · left
        rw [hj]
        unfold TS.pos
        rw [List.getElem?_eq_none (by omega)]
        rfl
    · exact .inl h5
theorem one_good : (parseS (treeX [49])).bad = 0 := by decide +kernel
set_option maxHeartbeats 4000000 in
theorem trees_any (w : World) (hm : MaxOk w) : Calls Try.prog 12 #[] w fun e w' => e = .returned (.bool true) ∧ Below w.heap.size w w' := by
  have HC := Lib.hid (parse_any ⟨#[49]⟩ w hm)
  unfold ParsePost at HC
  clear hm
  go_enter Try.func12, Try.ntmps12
  go_wp2_with fail
  refine HC.out.mono ?_
  rintro e w1 ⟨hb, ⟨h1, -⟩ | ⟨-, h1, -⟩ | ⟨-, -, g, rfl, -⟩⟩
  · exact absurd h1 (by decide)
  · exact absurd one_good h1
  have HB := Lib.hid hb
  clear hb HC
  go_wp2_with fail
  go_ret
  exact ⟨rfl, HB.out.alloc HB.out.size _⟩
end Go.Proofs.Ytfjeikijmconoaa
