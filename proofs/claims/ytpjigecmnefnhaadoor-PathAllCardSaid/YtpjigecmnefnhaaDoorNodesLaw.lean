/-
  How many nodes a value has, plainly; a good value has no more than 2000. No conditions.
-/
import Derived.Test.YtpjigecmnefnhaaDoorParts2
namespace Go.Proofs.YtpjigecmnefnhaaDoor
open Go.RowKit Gx

def V.nodes (v : V) : Nat := 1 + ((v.l.attach.map fun x => V.nodes x.1).sum + (v.e.attach.map fun x => V.nodes x.1.2).sum)
termination_by SizeOf.sizeOf v
decreasing_by
  · exact V.lt_l x.2
  · exact V.lt_e x.2
theorem attach_map' {α β : Type} (l : List α) (g : α → β) : (l.attach.map fun x => g x.1) = l.map g := by
  have h : l.attach.map Subtype.val = l := List.attach_map_subtype_val l
  calc (l.attach.map fun x => g x.1) = (l.attach.map Subtype.val).map g := by rw [List.map_map]; rfl
    _ = l.map g := by rw [h]
def nodesL (l : List V) : Nat := (l.map V.nodes).sum
theorem nodes_eq (v : V) : v.nodes = 1 + nodesL v.parts := by
  rw [V.nodes, attach_map' v.l V.nodes, attach_map' v.e (fun x => x.2.nodes)]
  unfold nodesL V.parts
  rw [List.map_append, List.map_map, List.sum_append]
  rfl
theorem nodesL_nil : nodesL [] = 0 := rfl
theorem nodesL_snoc (l : List V) (x : V) : nodesL (l ++ [x]) = nodesL l + x.nodes := by simp [nodesL]
theorem nodesL_app (l m : List V) : nodesL (l ++ m) = nodesL l + nodesL m := by simp [nodesL]
theorem nodesL_cons (x : V) (l : List V) : nodesL (x :: l) = x.nodes + nodesL l := by simp [nodesL]
theorem nodesL_mem : ∀ {l : List V} {x : V}, x ∈ l → x.nodes ≤ nodesL l
  | [], x, h => by cases h
  | y :: l, x, h => by
    rw [nodesL_cons]
    rcases List.mem_cons.1 h with rfl | h
    · omega
    · have := nodesL_mem h; omega
theorem nodes_part {v x : V} (h : x ∈ v.parts) : x.nodes < v.nodes := by
  rw [nodes_eq v]; have := nodesL_mem h; omega
end Go.Proofs.YtpjigecmnefnhaaDoor
