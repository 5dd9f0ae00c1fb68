/-
  Plain law of TreeFirst: what is ahead of the place where a text fails. No conditions.
-/
import Derived.Test.YtfjeikijmconoaaTreeBad
import Derived.Test.YtfjeikijmconoaaTokFrontLaw
namespace Go.Proofs.Ytfjeikijmconoaa

theorem toks_split (l : List UInt8) : ∀ (f a i : Nat) (t : Tok), l.length ≤ a + f → (toksFrom l a)[i]? = some t →
    toksFrom l a = (toksFrom l a).take i ++ toksFrom l t.2.1 ∧ ∀ j u, j < i → (toksFrom l a)[j]? = some u → u.2.1 < t.2.1
  | 0, a, i, t, h, ht => by rw [toksFrom_end _ _ (by omega)] at ht; simp at ht
  | f + 1, a, i, t, h, ht => by
    by_cases ha : l.length ≤ a
    · rw [toksFrom_end _ _ ha] at ht; simp at ht
    · have hn := nextTok_fits (l.drop a) (by rw [List.length_drop]; omega)
      have hst := toksFrom_step l a (by omega)
      cases i with
      | zero =>
        have e : t.2.1 = a := by
          rw [hst] at ht
          have := Option.some.inj ht
          rw [← this]
        rw [e]
        exact ⟨by simp, fun j u hj => by omega⟩
      | succ i =>
        rw [hst, List.getElem?_cons_succ] at ht
        obtain ⟨h1, h2⟩ := toks_split l f _ i t (by omega) ht
        have hlow := toksFrom_low l l.length (a + (nextTok (l.drop a)).2) (by omega) t (List.mem_of_getElem? ht)
        rw [hst]
        refine ⟨?_, fun j u hj hu => ?_⟩
        · rw [List.take_succ_cons, List.cons_append, ← h1]
        · cases j with
          | zero =>
            have := Option.some.inj hu
            rw [← this]
            show a < t.2.1
            omega
          | succ j => exact h2 j u (by omega) (by rw [List.getElem?_cons_succ] at hu; exact hu)
/-- the tokens of a text, for the reader -/
def treeOf (l : List UInt8) (F : Nat) : TS := ⟨l, toksFrom l 0, F⟩
theorem tree_row (l : List UInt8) (F i : Nat) (hi : i < (toksFrom l 0).length) : Row (treeOf l F) i := by
  have hget : (toksFrom l 0)[i]? = some (toksFrom l 0)[i] := List.getElem?_eq_getElem hi
  have hp : (treeOf l F).pos i = ((toksFrom l 0)[i]).2.1 := by unfold TS.pos treeOf; simp only; rw [hget]
  have hlow := toksFrom_low l l.length 0 (by omega) _ (List.mem_of_getElem? hget)
  refine ⟨hi, fun j hj => ?_, fun j hj => ?_, by rw [hp]; show _ ≤ l.length; omega⟩
  · have hj' : (toksFrom l 0)[j]? = some (toksFrom l 0)[j] := List.getElem?_eq_getElem (by omega)
    have := (toks_split l l.length 0 i _ (by omega) hget).2 j _ hj hj'
    rw [hp]
    unfold TS.pos treeOf
    simp only
    rw [hj']
    exact this
  · rw [hp]
    by_cases hl : j < (toksFrom l 0).length
    · have hj' : (toksFrom l 0)[j]? = some (toksFrom l 0)[j] := List.getElem?_eq_getElem hl
      have := (toks_split l l.length 0 j _ (by omega) hj').2 i _ hj hget
      unfold TS.pos treeOf
      simp only
      rw [hj']
      exact this
    · unfold TS.pos treeOf
      simp only
      rw [List.getElem?_eq_none (by omega)]
      show _ < l.length
      omega
/-- THE LAW: where the whole fails with form at a token, what is ahead of it is whole, or fails with form at its end -/
theorem tree_first (l : List UInt8) (F i : Nat) (hi : i < (toksFrom l 0).length) (hf : Here (treeOf l F) i (parseS (treeOf l F))) :
    (parseS (treeOf (l.take ((treeOf l F).pos i)) F)).bad = 0 ∨
    ((parseS (treeOf (l.take ((treeOf l F).pos i)) F)).bad = 4 ∧ (parseS (treeOf (l.take ((treeOf l F).pos i)) F)).wh = (treeOf l F).pos i) := by
  have hr := tree_row l F i hi
  have hget : (toksFrom l 0)[i]? = some (toksFrom l 0)[i] := List.getElem?_eq_getElem hi
  have hp : (treeOf l F).pos i = ((toksFrom l 0)[i]).2.1 := by unfold TS.pos treeOf; simp only; rw [hget]
  have hsp := (toks_split l l.length 0 i _ (by omega) hget).1
  rw [← hp] at hsp
  have hgood : ∀ t ∈ (toksFrom l 0).take i, t.1 ≠ 7 := fun t ht h7 => by
    obtain ⟨j, hj⟩ := List.getElem?_of_mem ht
    have hj2 : j < i := by
      have := (List.getElem?_eq_some_iff.1 hj).1
      rw [List.length_take] at this
      omega
    refine first_good (j := j) ⟨hr, hj2, ?_⟩ hf
    rw [List.getElem?_take, if_pos hj2] at hj
    unfold TS.kind treeOf
    simp only
    rw [hj]
    exact h7
  have htk := toks_take l ((treeOf l F).pos i) hr.le _ 0 (by omega) hsp hgood
  have e : treeOf (l.take ((treeOf l F).pos i)) F = (treeOf l F).upto i := by
    show TS.mk _ (toksFrom (l.take ((treeOf l F).pos i)) 0) F = TS.mk _ ((toksFrom l 0).take i) F
    rw [htk]
    rfl
  rw [e]
  exact parse_first hr hf
end Go.Proofs.Ytfjeikijmconoaa
