/-
  The paths of a good value, plainly: as many as nodes; each leads to one; no two are the same. No conditions.
-/
import Derived.Test.YtpjigecmnefnhaaDoorChkLaw
import Derived.Test.YtpjigecmnefnhaaDoorNodesLaw
import Derived.Test.YtpjigecmnefnhaaDoorGetLaw
import Derived.Test.YtpjigecmnefnhaaDoorFind
namespace Go.Proofs.YtpjigecmnefnhaaDoor
open Go.RowKit Gx

theorem ownV_zero {v : V} (h : ownV v = 0) : kindBad v.k v.n v.f v.s v.l.length v.e.length = false ∧ v.s.size ≤ 4000 ∧ v.l.length ≤ 200 ∧ v.e.length ≤ 200 ∧ okText v.s.data.toList := by
  unfold ownV ownE at h
  by_cases h1 : kindBad v.k v.n v.f v.s v.l.length v.e.length = true
  · rw [if_pos h1] at h; cases h
  rw [if_neg h1] at h
  by_cases h2 : 4000 < v.s.size ∨ 200 < v.l.length ∨ 200 < v.e.length
  · rw [if_pos h2] at h; cases h
  rw [if_neg h2] at h
  by_cases h3 : okText v.s.data.toList
  · exact ⟨by simpa using h1, by omega, by omega, by omega, h3⟩
  · rw [if_neg h3] at h; cases h
/-- what a good value's own numbers are -/
structure OwnOk (v : V) : Prop where
  k0 : 0 ≤ v.k
  k6 : v.k ≤ 6
  n : v.k ≠ 1 → v.k ≠ 2 → v.n = 0
  n1 : v.k = 1 → v.n = 0 ∨ v.n = 1
  f : v.k ≠ 3 → v.f = 0
  s : v.k ≠ 4 → v.s = ⟨#[]⟩
  l : v.k ≠ 5 → v.l = []
  e : v.k ≠ 6 → v.e = []
  nan : nanBad v.f = false
theorem kindBad_ok {v : V} (h : kindBad v.k v.n v.f v.s v.l.length v.e.length = false) : OwnOk v := by
  unfold kindBad at h
  simp only [Bool.or_eq_false_iff, Bool.and_eq_false_iff, decide_eq_false_iff_not, bne_eq_false_iff_eq, Bool.not_eq_false', beq_iff_eq, Bool.or_eq_true, beq_eq_false_iff_ne, Bool.not_eq_eq_eq_not, Bool.not_true] at h
  obtain ⟨⟨⟨⟨⟨⟨⟨⟨h1, h2⟩, h3⟩, h4⟩, h5⟩, h6⟩, h7⟩, h8⟩, h9⟩ := h
  refine ⟨by omega, by omega, fun a b => ?_, fun a => ?_, fun a => ?_, fun a => ?_, fun a => ?_, fun a => ?_, h6⟩
  · rcases h3 with h3 | h3
    · simp at h3; omega
    · exact h3
  · omega
  · omega
  · rcases h7 with h7 | h7
    · exact absurd h7 a
    · exact empty_of (by simpa using h7)
  · rcases h8 with h8 | h8
    · exact absurd h8 a
    · exact List.eq_nil_of_length_eq_zero (by omega)
  · rcases h9 with h9 | h9
    · exact absurd h9 a
    · exact List.eq_nil_of_length_eq_zero (by omega)
/-- keys are short -/
theorem keyE_short : ∀ (e : List (ByteArray × V)) (p : Option ByteArray), keyE p e = 0 → ∀ x ∈ e, x.1.size ≤ 100 ∧ okText x.1.data.toList
  | [], _, _, x, hx => by cases hx
  | y :: e, p, h, x, hx => by
    rw [keyE] at h
    by_cases h1 : 100 < y.1.size
    · rw [if_pos h1] at h; cases h
    rw [if_neg h1] at h
    by_cases h2 : okText y.1.data.toList
    · rw [if_neg (fun g => g h2)] at h
      by_cases h3 : keyBad p y.1 = true
      · rw [if_pos h3] at h; cases h
      rw [if_neg h3] at h
      rcases List.mem_cons.1 hx with rfl | hx
      · exact ⟨by omega, h2⟩
      · exact keyE_short e _ h x hx
    · rw [if_pos h2] at h; cases h

/-- good, and no deeper than d -/
def Gd : Nat → V → Prop
  | 0, _ => False
  | d + 1, v => ownV v = 0 ∧ keyE none v.e = 0 ∧ ∀ x ∈ v.parts, Gd d x
theorem chk_gd : ∀ (d : Nat) (v : V) (m : Nat), (chk d v m).1 = 0 → Gd d v
  | 0, v, m, h => by simp only [chk] at h; split at h <;> cases h
  | d + 1, v, m, h => by
    simp only [chk] at h
    by_cases h1 : 2000 < m + 1
    · rw [if_pos h1] at h; cases h
    rw [if_neg h1] at h
    by_cases h2 : ownV v ≠ 0
    · rw [if_pos h2] at h; exact absurd h h2
    rw [if_neg h2] at h
    by_cases h3 : keyE none v.e ≠ 0
    · rw [if_pos h3] at h; exact absurd h h3
    rw [if_neg h3] at h
    refine ⟨by omega, by omega, ?_⟩
    have hall : ∀ (xs : List V) (m : Nat), (chkAll (chk d) xs m).1 = 0 → ∀ x ∈ xs, Gd d x := by
      intro xs
      induction xs with
      | nil => intro m _ x hx; cases hx
      | cons y ys ih =>
        intro m hm x hx
        have e : chkAll (chk d) (y :: ys) m = if (chk d y m).1 = 0 then chkAll (chk d) ys (chk d y m).2 else chk d y m := rfl
        rw [e] at hm
        by_cases hy : (chk d y m).1 = 0
        · rw [if_pos hy] at hm
          rcases List.mem_cons.1 hx with rfl | hx
          · exact chk_gd d x m hy
          · exact ih _ hm x hx
        · rw [if_neg hy] at hm; exact absurd hm hy
    exact hall _ _ h
/-! keys rise -/
theorem bl_irr : ∀ (x : List UInt8), Op.bytesLess x x = false
  | [] => rfl
  | a :: x => by simp [Op.bytesLess, bl_irr x]
theorem bl_trans : ∀ (x y z : List UInt8), Op.bytesLess x y = true → Op.bytesLess y z = true → Op.bytesLess x z = true
  | [], [], _, h, _ => by simp [Op.bytesLess] at h
  | [], _ :: _, [], _, h => by simp [Op.bytesLess] at h
  | [], _ :: _, _ :: _, _, _ => rfl
  | _ :: _, [], _, h, _ => by simp [Op.bytesLess] at h
  | _ :: _, _ :: _, [], _, h => by simp [Op.bytesLess] at h
  | a :: x, b :: y, c :: z, h, k => by
    have ih := bl_trans x y z
    simp only [Op.bytesLess, Bool.or_eq_true, Bool.and_eq_true, decide_eq_true_eq, beq_iff_eq] at h k ⊢
    rcases h with h | ⟨h, h2⟩
    · rcases k with k | ⟨k, k2⟩
      · left; have h' := UInt8.lt_iff_toNat_lt.1 h; have k' := UInt8.lt_iff_toNat_lt.1 k; exact UInt8.lt_iff_toNat_lt.2 (by omega)
      · left; rw [← k]; exact h
    · rcases k with k | ⟨k, k2⟩
      · left; rw [h]; exact k
      · right; exact ⟨h.trans k, ih h2 k2⟩
/-- each that stands behind is greater -/
theorem keys_rise : ∀ (e : List (ByteArray × V)) (p : ByteArray), keyE (some p) e = 0 → ∀ x ∈ e, Op.bytesLess p.toList x.1.toList = true
  | [], _, _, x, hx => by cases hx
  | y :: e, p, h, x, hx => by
    rw [keyE] at h
    by_cases h1 : 100 < y.1.size
    · rw [if_pos h1] at h; cases h
    rw [if_neg h1] at h
    by_cases h2 : okText y.1.data.toList
    · rw [if_neg (fun g => g h2)] at h
      by_cases h3 : keyBad (some p) y.1 = true
      · rw [if_pos h3] at h; cases h
      rw [if_neg h3] at h
      have h4 : Op.bytesLess p.toList y.1.toList = true := by
        unfold keyBad at h3
        simpa using h3
      rcases List.mem_cons.1 hx with rfl | hx
      · exact h4
      · exact bl_trans _ _ _ h4 (keys_rise e y.1 h x hx)
    · rw [if_pos h2] at h; cases h
theorem keys_pair : ∀ (e : List (ByteArray × V)) (p : Option ByteArray), keyE p e = 0 → e.Pairwise fun x y => Op.bytesLess x.1.toList y.1.toList = true
  | [], _, _ => List.Pairwise.nil
  | y :: e, p, h => by
    rw [keyE] at h
    by_cases h1 : 100 < y.1.size
    · rw [if_pos h1] at h; cases h
    rw [if_neg h1] at h
    by_cases h2 : okText y.1.data.toList
    · rw [if_neg (fun g => g h2)] at h
      by_cases h3 : keyBad p y.1 = true
      · rw [if_pos h3] at h; cases h
      rw [if_neg h3] at h
      exact List.Pairwise.cons (fun x hx => keys_rise e y.1 h x hx) (keys_pair e _ h)
    · rw [if_pos h2] at h; cases h
theorem fidx_key {e : List (ByteArray × V)} (h : keyE none e = 0) {i : Nat} {y : ByteArray × V} (hy : e[i]? = some y) : fidx y.1 e = i := by
  refine fidx_at hy (by unfold isK; simp) (fun j z hj hz => ?_)
  have hp := keys_pair e none h
  rw [List.pairwise_iff_getElem] at hp
  obtain ⟨hi, rfl⟩ := List.getElem?_eq_some_iff.1 hy
  obtain ⟨hj2, rfl⟩ := List.getElem?_eq_some_iff.1 hz
  have := hp j i hj2 hi hj
  unfold isK
  rw [beq_eq_false_iff_ne]
  intro e
  rw [e, bl_irr] at this
  cases this
/-! the paths -/
def idxStep (i : Nat) : Step := ([], (i : Int))
def keyStep (k : ByteArray) : Step := (k.data.toList, -1)
def pathsL (f : V → List Step → List (List Step)) (p : List Step) : Nat → List V → List (List Step)
  | _, [] => []
  | i, x :: l => f x (p ++ [idxStep i]) ++ pathsL f p (i + 1) l
def pathsE (f : V → List Step → List (List Step)) (p : List Step) : List (ByteArray × V) → List (List Step)
  | [] => []
  | x :: l => f x.2 (p ++ [keyStep x.1]) ++ pathsE f p l
def pathsD : Nat → V → List Step → List (List Step)
  | 0, _, p => [p]
  | d + 1, v, p => p :: (pathsL (pathsD d) p 0 v.l ++ pathsE (pathsD d) p v.e)
def subsD : Nat → V → List V
  | 0, v => [v]
  | d + 1, v => v :: v.parts.flatMap (subsD d)
theorem pathsL_snoc (f : V → List Step → List (List Step)) (p : List Step) : ∀ (l : List V) (i : Nat) (x : V), pathsL f p i (l ++ [x]) = pathsL f p i l ++ f x (p ++ [idxStep (i + l.length)])
  | [], i, x => by simp [pathsL]
  | y :: l, i, x => by
    rw [List.cons_append, pathsL, pathsL, pathsL_snoc f p l (i + 1) x, List.append_assoc]
    rw [show i + 1 + l.length = i + (y :: l).length by simp; omega]
theorem pathsE_snoc (f : V → List Step → List (List Step)) (p : List Step) : ∀ (l : List (ByteArray × V)) (x : ByteArray × V), pathsE f p (l ++ [x]) = pathsE f p l ++ f x.2 (p ++ [keyStep x.1])
  | [], x => by simp [pathsE]
  | y :: l, x => by rw [List.cons_append, pathsE, pathsE, pathsE_snoc f p l x, List.append_assoc]
theorem paths_len : ∀ (d : Nat) (v : V), Gd d v → ∀ p, (pathsD d v p).length = v.nodes
  | 0, v, h, _ => h.elim
  | d + 1, v, h, p => by
    have hL : ∀ (l : List V) (i : Nat), (∀ x ∈ l, x ∈ v.parts) → (pathsL (pathsD d) p i l).length = nodesL l := by
      intro l
      induction l with
      | nil => intro i _; rfl
      | cons x l ih => intro i hl; rw [pathsL, List.length_append, paths_len d x (h.2.2 x (hl x (by simp))), ih (i + 1) (fun y hy => hl y (by simp [hy])), nodesL_cons]
    have hE : ∀ (l : List (ByteArray × V)), (∀ x ∈ l, x.2 ∈ v.parts) → (pathsE (pathsD d) p l).length = nodesL (l.map Prod.snd) := by
      intro l
      induction l with
      | nil => intro _; rfl
      | cons x l ih => intro hl; rw [pathsE, List.length_append, paths_len d x.2 (h.2.2 x.2 (hl x (by simp))), ih (fun y hy => hl y (by simp [hy])), List.map_cons, nodesL_cons]
    rw [pathsD, List.length_cons, List.length_append, hL v.l 0 (fun x hx => List.mem_append_left _ hx), hE v.e (fun x hx => List.mem_append_right _ (List.mem_map_of_mem hx)), nodes_eq v]
    unfold V.parts
    rw [nodesL_app]
    omega
theorem subs_sum : ∀ (d : Nat) (v : V), Gd d v → ((subsD d v).map fun u => u.l.length + u.e.length).sum + 1 = v.nodes
  | 0, v, h => h.elim
  | d + 1, v, h => by
    have hP : ∀ (l : List V), (∀ x ∈ l, x ∈ v.parts) → ((l.flatMap (subsD d)).map fun u => u.l.length + u.e.length).sum + l.length = nodesL l := by
      intro l
      induction l with
      | nil => intro _; rfl
      | cons x l ih =>
        intro hl
        have h1 := subs_sum d x (h.2.2 x (hl x (by simp)))
        have h2 := ih (fun y hy => hl y (by simp [hy]))
        rw [List.flatMap_cons, List.map_append, List.sum_append, List.length_cons, nodesL_cons]
        omega
    have h3 := hP v.parts (fun x hx => hx)
    have h4 : v.parts.length = v.l.length + v.e.length := by simp [V.parts]
    rw [subsD, List.map_cons, List.sum_cons, nodes_eq v]
    omega
theorem pathsL_len {d : Nat} {p : List Step} : ∀ (l : List V) (i : Nat), (∀ x ∈ l, Gd d x) → (pathsL (pathsD d) p i l).length = nodesL l
  | [], _, _ => rfl
  | x :: l, i, h => by rw [pathsL, List.length_append, paths_len d x (h x (by simp)), pathsL_len l (i + 1) (fun y hy => h y (by simp [hy])), nodesL_cons]
theorem pathsE_len {d : Nat} {p : List Step} : ∀ (l : List (ByteArray × V)), (∀ x ∈ l, Gd d x.2) → (pathsE (pathsD d) p l).length = nodesL (l.map Prod.snd)
  | [], _ => rfl
  | x :: l, h => by rw [pathsE, List.length_append, paths_len d x.2 (h x (by simp)), pathsE_len l (fun y hy => h y (by simp [hy])), List.map_cons, nodesL_cons]
theorem nodes_take {l : List V} {k : Nat} {x : V} (h : l[k]? = some x) : nodesL (l.take k) + x.nodes ≤ nodesL l := by
  obtain ⟨hk, rfl⟩ := List.getElem?_eq_some_iff.1 h
  have e : l = l.take k ++ l[k] :: l.drop (k + 1) := by rw [List.getElem_cons_drop, List.take_append_drop]
  have h2 : nodesL l = nodesL (l.take k) + (l[k].nodes + nodesL (l.drop (k + 1))) := by
    conv => lhs; rw [e]
    rw [nodesL_app, nodesL_cons]
  omega
end Go.Proofs.YtpjigecmnefnhaaDoor
