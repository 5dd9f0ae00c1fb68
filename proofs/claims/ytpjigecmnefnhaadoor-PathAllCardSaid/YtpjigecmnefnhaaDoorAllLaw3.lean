/-
  What check counts are the nodes, plainly. No conditions.
-/
import Derived.Test.YtpjigecmnefnhaaDoorAllLaw2
namespace Go.Proofs.YtpjigecmnefnhaaDoor
open Go.RowKit Gx

/-- what check counts are the nodes -/
theorem chk_nodes : ∀ (d : Nat) (v : V) (m : Nat), (chk d v m).1 = 0 → (chk d v m).2 = m + v.nodes
  | 0, v, m, h => by simp only [chk] at h; split at h <;> cases h
  | d + 1, v, m, h => by
    simp only [chk] at h ⊢
    by_cases h1 : 2000 < m + 1
    · rw [if_pos h1] at h; cases h
    rw [if_neg h1] at h ⊢
    by_cases h2 : ownV v ≠ 0
    · rw [if_pos h2] at h; exact absurd h h2
    rw [if_neg h2] at h ⊢
    by_cases h3 : keyE none v.e ≠ 0
    · rw [if_pos h3] at h; exact absurd h h3
    rw [if_neg h3] at h ⊢
    have hall : ∀ (xs : List V) (m : Nat), (chkAll (chk d) xs m).1 = 0 → (chkAll (chk d) xs m).2 = m + nodesL xs := by
      intro xs
      induction xs with
      | nil => intro m _; rfl
      | cons y ys ih =>
        intro m hm
        have e : chkAll (chk d) (y :: ys) m = if (chk d y m).1 = 0 then chkAll (chk d) ys (chk d y m).2 else chk d y m := rfl
        rw [e] at hm ⊢
        by_cases hy : (chk d y m).1 = 0
        · rw [if_pos hy] at hm ⊢
          rw [ih _ hm, chk_nodes d y m hy, nodesL_cons]; omega
        · rw [if_neg hy] at hm; exact absurd hm hy
    rw [hall _ _ h, nodes_eq v]; omega
theorem good_nodes {v : V} (h : chkV v = 0) : v.nodes ≤ 2000 := by
  have h1 := chk_nodes 20 v 0 h
  have h2 := (chk_le 20 v 0 (by decide)).2 h
  omega
theorem sum_take {l : List Nat} {k x : Nat} (h : l[k]? = some x) : (l.take k).sum + x ≤ l.sum ∧ (l.take (k + 1)).sum = (l.take k).sum + x := by
  obtain ⟨hk, rfl⟩ := List.getElem?_eq_some_iff.1 h
  have h2 : (l.take (k + 1)).sum = (l.take k).sum + l[k] := by rw [List.take_succ_eq_append_getElem hk, List.sum_append]; simp
  have h3 : l.sum = (l.take (k + 1)).sum + (l.drop (k + 1)).sum := by rw [← List.sum_append, List.take_append_drop]
  exact ⟨by omega, h2⟩
end Go.Proofs.YtpjigecmnefnhaaDoor
