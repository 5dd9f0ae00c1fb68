/-
  What val.Check answers, plainly. No conditions.
-/
import Derived.Test.YtpjigecmnefnhaaDoorVal
import Derived.Test.YtpjigecmnefnhaaDoorParts2
import Derived.Test.YtpjigecmnefnhaaDoorOwn0
namespace Go.Proofs.YtpjigecmnefnhaaDoor
open Go.RowKit Gx

/-- what own says of a value -/
noncomputable def ownV (v : V) : Nat := ownE v.k v.n v.f v.s v.l.length v.e.length
/-- the first fault of keys, prev being the one ahead -/
def keyBad (prev : Option ByteArray) (x : ByteArray) : Bool := match prev with | none => false | some p => !(Op.bytesLess p.toList x.toList)
open Classical in
noncomputable def keyE (prev : Option ByteArray) : List (ByteArray × V) → Nat
  | [] => 0
  | x :: xs => if 100 < x.1.size then 2 else if ¬ okText x.1.data.toList then 3 else if keyBad prev x.1 = true then 14 else keyE (some x.1) xs
/-- all of them, one behind the other -/
def chkAll (f : V → Nat → Nat × Nat) : List V → Nat → Nat × Nat
  | [], m => (0, m)
  | x :: xs, m => if (f x m).1 = 0 then chkAll f xs (f x m).2 else f x m
/-- what check says, d levels being left, m nodes being counted; and how many are then -/
noncomputable def chk : Nat → V → Nat → Nat × Nat
  | 0, _, m => (if 2000 < m + 1 then 2 else 5, m + 1)
  | d + 1, v, m => if 2000 < m + 1 then (2, m + 1) else if ownV v ≠ 0 then (ownV v, m + 1) else if keyE none v.e ≠ 0 then (keyE none v.e, m + 1) else chkAll (chk d) v.parts (m + 1)

/-- what Check says -/
noncomputable def chkV (v : V) : Nat := (chk 20 v 0).1

theorem chkAll_snoc (f : V → Nat → Nat × Nat) : ∀ (xs : List V) (x : V) (m : Nat), (chkAll f xs m).1 = 0 → chkAll f (xs ++ [x]) m = f x (chkAll f xs m).2
  | [], x, m, _ => by
    show (if (f x m).1 = 0 then (0, (f x m).2) else f x m) = f x m
    by_cases h : (f x m).1 = 0
    · rw [if_pos h]; exact Prod.ext h.symm rfl
    · rw [if_neg h]
  | y :: xs, x, m, h => by
    have e : ∀ zs, chkAll f (y :: zs) m = if (f y m).1 = 0 then chkAll f zs (f y m).2 else f y m := fun _ => rfl
    rw [e] at h
    rw [List.cons_append, e, e]
    by_cases h1 : (f y m).1 = 0
    · rw [if_pos h1] at h
      rw [if_pos h1, if_pos h1]
      exact chkAll_snoc f xs x _ h
    · rw [if_neg h1] at h
      exact absurd h h1
theorem chkAll_stop (f : V → Nat → Nat × Nat) : ∀ (xs ys : List V) (m : Nat), (chkAll f xs m).1 ≠ 0 → chkAll f (xs ++ ys) m = chkAll f xs m
  | [], ys, m, h => absurd rfl h
  | x :: xs, ys, m, h => by
    simp only [chkAll, List.cons_append] at h ⊢
    by_cases h1 : (f x m).1 = 0
    · rw [if_pos h1] at h
      rw [if_pos h1, if_pos h1]
      exact chkAll_stop f xs ys _ h
    · rw [if_neg h1, if_neg h1]
theorem chkAll_le (f : V → Nat → Nat × Nat) (hf : ∀ x m, m ≤ 2000 → (f x m).2 ≤ 2001 ∧ ((f x m).1 = 0 → (f x m).2 ≤ 2000)) : ∀ (xs : List V) (m : Nat), m ≤ 2000 → (chkAll f xs m).2 ≤ 2001 ∧ ((chkAll f xs m).1 = 0 → (chkAll f xs m).2 ≤ 2000)
  | [], m, h => ⟨by simp [chkAll]; omega, fun _ => h⟩
  | x :: xs, m, h => by
    simp only [chkAll]
    by_cases h1 : (f x m).1 = 0
    · rw [if_pos h1]
      exact chkAll_le f hf xs _ ((hf x m h).2 h1)
    · rw [if_neg h1]
      exact hf x m h
theorem chk_le : ∀ (d : Nat) (v : V) (m : Nat), m ≤ 2000 → (chk d v m).2 ≤ 2001 ∧ ((chk d v m).1 = 0 → (chk d v m).2 ≤ 2000)
  | 0, v, m, h => by
    simp only [chk]
    refine ⟨by omega, fun h2 => ?_⟩
    split at h2 <;> cases h2
  | d + 1, v, m, h => by
    simp only [chk]
    by_cases h1 : 2000 < m + 1
    · rw [if_pos h1]; exact ⟨by simp only; omega, fun h2 => by cases h2⟩
    rw [if_neg h1]
    by_cases h2 : ownV v ≠ 0
    · rw [if_pos h2]; exact ⟨by simp only; omega, fun h3 => absurd h3 h2⟩
    rw [if_neg h2]
    by_cases h3 : keyE none v.e ≠ 0
    · rw [if_pos h3]; exact ⟨by simp only; omega, fun h4 => absurd h4 h3⟩
    rw [if_neg h3]
    exact chkAll_le _ (chk_le d) _ _ (by omega)
/-- the key ahead of the k-th -/
def prevK (e : List (ByteArray × V)) (k : Nat) : Option ByteArray := if k = 0 then none else (e[k - 1]?).map Prod.fst
theorem prevK_succ {e : List (ByteArray × V)} {k : Nat} {x : ByteArray × V} (h : e[k]? = some x) : prevK e (k + 1) = some x.1 := by unfold prevK; simp [h]
open Classical in
theorem keyE_drop {e : List (ByteArray × V)} {k : Nat} {x : ByteArray × V} (h : e[k]? = some x) : keyE (prevK e k) (e.drop k) =
    if 100 < x.1.size then 2 else if ¬ okText x.1.data.toList then 3 else if keyBad (prevK e k) x.1 = true then 14 else keyE (prevK e (k + 1)) (e.drop (k + 1)) := by
  obtain ⟨hl, hx⟩ := List.getElem?_eq_some_iff.1 h
  rw [prevK_succ h, List.drop_eq_getElem_cons hl, hx, keyE]
theorem keyE_end (e : List (ByteArray × V)) (p : Option ByteArray) : keyE p (e.drop e.length) = 0 := by rw [List.drop_length]; rfl
end Go.Proofs.YtpjigecmnefnhaaDoor
