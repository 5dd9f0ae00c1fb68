/-
  Where a path leads, plainly; both paths together. No conditions.
-/
import Derived.Test.YtpjigecmnefnhaaDoorVal
import Derived.Test.YtpjigecmnefnhaaDoorStepRow
namespace Go.Proofs.YtpjigecmnefnhaaDoor
open Go.RowKit Gx

def isK (s : ByteArray) (x : ByteArray × V) : Bool := x.1.toList == s.toList
/-- where a key stands first; the length: nowhere -/
def fidx (s : ByteArray) (l : List (ByteArray × V)) : Nat := l.findIdx (isK s)
/-- one step -/
def partV (v : V) (x : Step) : V × Int :=
  if x.2 < 0 then
    if v.k ≠ 6 then (.zero, 10) else match v.e[fidx (bs x.1) v.e]? with
      | none => (.zero, 8)
      | some y => (y.2, 0)
  else if v.k ≠ 5 then (.zero, 10) else match v.l[x.2.toNat]? with
      | none => (.zero, 8)
      | some y => (y, 0)
/-- a path -/
def getV (v : V) : List Step → V × Int
  | [] => (v, 0)
  | x :: p => if (partV v x).2 = 0 then getV (partV v x).1 p else (.zero, (partV v x).2)
theorem getV_app : ∀ (p q : List Step) (v : V), getV v (p ++ q) = if (getV v p).2 = 0 then getV (getV v p).1 q else (.zero, (getV v p).2)
  | [], q, v => rfl
  | x :: p, q, v => by
    rw [List.cons_append, getV, getV]
    by_cases h : (partV v x).2 = 0
    · rw [if_pos h, if_pos h]; exact getV_app p q _
    · rw [if_neg h, if_neg h, if_neg h]
theorem partV_bad (v : V) (x : Step) : (partV v x).2 ≠ 0 → (partV v x).1 = .zero := by
  unfold partV
  split
  · split
    · exact fun _ => rfl
    · split
      · exact fun _ => rfl
      · exact fun h => absurd rfl h
  · split
    · exact fun _ => rfl
    · split
      · exact fun _ => rfl
      · exact fun h => absurd rfl h
theorem getV_snoc (p : List Step) (x : Step) (v : V) : getV v (p ++ [x]) = if (getV v p).2 = 0 then (if (partV (getV v p).1 x).2 = 0 then ((partV (getV v p).1 x).1, 0) else (.zero, (partV (getV v p).1 x).2)) else (.zero, (getV v p).2) := by
  rw [getV_app]
  rfl
theorem getV_zero : ∀ (p : List Step) (v : V), (getV v p).2 ≠ 0 → (getV v p).1 = .zero
  | [], v, h => absurd rfl h
  | x :: p, v, h => by
    rw [getV] at h ⊢
    by_cases h1 : (partV v x).2 = 0
    · rw [if_pos h1] at h ⊢; exact getV_zero p _ h
    · rw [if_neg h1]
/-- what goes wrong early goes wrong -/
theorem getV_take {p : List Step} {j : Nat} {v : V} (h : (getV v (p.take j)).2 ≠ 0) : getV v p = (.zero, (getV v (p.take j)).2) := by
  have e : p = p.take j ++ p.drop j := (List.take_append_drop j p).symm
  rw [e, getV_app, List.take_append_drop j p, if_neg h]
end Go.Proofs.YtpjigecmnefnhaaDoor
