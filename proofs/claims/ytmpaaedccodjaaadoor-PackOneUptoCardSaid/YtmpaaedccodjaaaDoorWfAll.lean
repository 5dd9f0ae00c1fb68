/-
  Numbers of values that lie in memory. No conditions.
-/
import Derived.Test.YtmpaaedccodjaaaDoorVal
namespace Go.Proofs.YtmpaaedccodjaaaDoor
open Go.RowKit Gx

/-- whether a value's own numbers are such, all through -/
inductive WfAll : V → Prop
  | mk (v : V) (h : v.wf) (hl : ∀ x ∈ v.l, WfAll x) (he : ∀ x ∈ v.e, WfAll x.2) : WfAll v
theorem WfAll.own {v : V} (h : WfAll v) : v.wf := by cases h; assumption
theorem WfAll.l {v : V} (h : WfAll v) : ∀ x ∈ v.l, WfAll x := by cases h; assumption
theorem WfAll.e {v : V} (h : WfAll v) : ∀ x ∈ v.e, WfAll x.2 := by cases h; assumption
theorem RowAt.wfAll {w : World} {B : Nat → Prop} {t : Bool} {xs : List (ByteArray × V)} {v : Value} (h : RowAt w B t xs v) : ∀ x ∈ xs, WfAll x.2 := by
  induction h with
  | nil => intro x hx; cases hx
  | row t xs blk off cap sl se hne hn hB hlt hk hc hl he ihl ihe =>
    intro x hx
    obtain ⟨i, hi, rfl⟩ := List.getElem_of_mem hx
    have hi' : xs[i]? = some xs[i] := List.getElem?_eq_getElem hi
    refine .mk _ (hc i _ hi').1 (fun y hy => ?_) (fun y hy => ihe i _ hi' y hy)
    exact ihl i _ hi' (⟨#[]⟩, y) (by simp [lp]; exact hy)
theorem VAt.wfAll {w : World} {B : Nat → Prop} {q : Loc} (h : VAt w B q) : WfAll q.v :=
  .mk _ h.wf (fun x hx => h.l.wfAll (⟨#[]⟩, x) (by simp [lp]; exact hx)) (fun x hx => h.e.wfAll x hx)
end Go.Proofs.YtmpaaedccodjaaaDoor
