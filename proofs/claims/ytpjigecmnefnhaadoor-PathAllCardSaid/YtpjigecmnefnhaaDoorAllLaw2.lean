/-
  Each path of a good value leads to its node, is right, and no two are the same, plainly. No conditions.
-/
import Derived.Test.YtpjigecmnefnhaaDoorAllLaw
namespace Go.Proofs.YtpjigecmnefnhaaDoor
open Go.RowKit Gx

abbrev Pr := List Step × V
def under (s : Step) (l : List Pr) : List Pr := l.map fun z => (s :: z.1, z.2)
def pairsL (f : V → List Pr) : Nat → List V → List Pr
  | _, [] => []
  | i, x :: l => under (idxStep i) (f x) ++ pairsL f (i + 1) l
def pairsE (f : V → List Pr) : List (ByteArray × V) → List Pr
  | [] => []
  | x :: l => under (keyStep x.1) (f x.2) ++ pairsE f l
def pairsD : Nat → V → List Pr
  | 0, v => [([], v)]
  | d + 1, v => ([], v) :: (pairsL (pairsD d) 0 v.l ++ pairsE (pairsD d) v.e)
theorem under_map (p : List Step) (s : Step) (l : List Pr) : (under s l).map (fun z => p ++ z.1) = l.map fun z => (p ++ [s]) ++ z.1 := by
  unfold under
  rw [List.map_map]
  exact List.map_congr_left (fun z _ => by simp)
theorem under_snd (s : Step) (l : List Pr) : (under s l).map (·.2) = l.map (·.2) := by
  unfold under
  rw [List.map_map]
  rfl
theorem paths_pairs : ∀ (d : Nat) (v : V) (p : List Step), pathsD d v p = (pairsD d v).map fun z => p ++ z.1
  | 0, v, p => by simp [pathsD, pairsD]
  | d + 1, v, p => by
    have hL : ∀ (l : List V) (i : Nat), pathsL (pathsD d) p i l = (pairsL (pairsD d) i l).map fun z => p ++ z.1 := by
      intro l
      induction l with
      | nil => intro i; rfl
      | cons x l ih => intro i; rw [pathsL, pairsL, List.map_append, under_map, paths_pairs d x, ih]
    have hE : ∀ (l : List (ByteArray × V)), pathsE (pathsD d) p l = (pairsE (pairsD d) l).map fun z => p ++ z.1 := by
      intro l
      induction l with
      | nil => rfl
      | cons x l ih => rw [pathsE, pairsE, List.map_append, under_map, paths_pairs d x.2, ih]
    rw [pathsD, pairsD, List.map_cons, List.map_append, hL, hE, List.append_nil]
theorem subs_pairs : ∀ (d : Nat) (v : V), subsD d v = (pairsD d v).map (·.2)
  | 0, v => rfl
  | d + 1, v => by
    have hL : ∀ (l : List V) (i : Nat), l.flatMap (subsD d) = (pairsL (pairsD d) i l).map (·.2) := by
      intro l
      induction l with
      | nil => intro i; rfl
      | cons x l ih => intro i; rw [List.flatMap_cons, pairsL, List.map_append, under_snd, subs_pairs d x, ← ih]
    have hE : ∀ (l : List (ByteArray × V)), (l.map Prod.snd).flatMap (subsD d) = (pairsE (pairsD d) l).map (·.2) := by
      intro l
      induction l with
      | nil => rfl
      | cons x l ih => rw [List.map_cons, List.flatMap_cons, pairsE, List.map_append, under_snd, subs_pairs d x.2, ← ih]
    rw [subsD, pairsD, List.map_cons, List.map_append]
    unfold V.parts
    rw [List.flatMap_append, hL v.l 0, hE]
theorem mem_pairsL {f : V → List Pr} : ∀ {l : List V} {i : Nat} {z : Pr}, z ∈ pairsL f i l → ∃ j x y, l[j]? = some x ∧ y ∈ f x ∧ z = (idxStep (i + j) :: y.1, y.2)
  | [], i, z, h => by cases h
  | x :: l, i, z, h => by
    rw [pairsL] at h
    rcases List.mem_append.1 h with h | h
    · obtain ⟨y, hy, rfl⟩ := List.mem_map.1 h
      exact ⟨0, x, y, rfl, hy, rfl⟩
    · obtain ⟨j, x', y, h1, h2, h3⟩ := mem_pairsL h
      exact ⟨j + 1, x', y, by simpa using h1, h2, by rw [h3, show i + 1 + j = i + (j + 1) by omega]⟩
theorem mem_pairsE {f : V → List Pr} : ∀ {l : List (ByteArray × V)} {z : Pr}, z ∈ pairsE f l → ∃ x y, x ∈ l ∧ y ∈ f x.2 ∧ z = (keyStep x.1 :: y.1, y.2)
  | [], z, h => by cases h
  | x :: l, z, h => by
    rw [pairsE] at h
    rcases List.mem_append.1 h with h | h
    · obtain ⟨y, hy, rfl⟩ := List.mem_map.1 h
      exact ⟨x, y, by simp, hy, rfl⟩
    · obtain ⟨x', y, h1, h2, h3⟩ := mem_pairsE h
      exact ⟨x', y, by simp [h1], h2, h3⟩
theorem bs_key (k : ByteArray) : bs k.data.toList = k := (bs_of k).symm
theorem stepOk_idx (i : Nat) : StepOk (idxStep i) := ⟨by show (-1 : Int) ≤ (i : Int); omega, fun _ => rfl, Nat.zero_le _, ⟨[], rfl, rfl⟩⟩
/-- each leads to its node -/
theorem pairs_get : ∀ (d : Nat) (v : V), Gd d v → ∀ z ∈ pairsD d v, getV v z.1 = (z.2, 0) ∧ z.1.length < d ∧ ∀ x ∈ z.1, StepOk x
  | 0, v, h, _, _ => h.elim
  | d + 1, v, h, z, hz => by
    have ok := kindBad_ok (ownV_zero h.1).1
    rw [pairsD] at hz
    rcases List.mem_cons.1 hz with rfl | hz
    · exact ⟨rfl, Nat.succ_pos _, fun x hx => by cases hx⟩
    rcases List.mem_append.1 hz with hz | hz
    · obtain ⟨j, x, y, hx, hy, rfl⟩ := mem_pairsL hz
      rw [Nat.zero_add]
      have hm : x ∈ v.parts := List.mem_append_left _ (List.mem_of_getElem? hx)
      obtain ⟨i1, i2, i3⟩ := pairs_get d x (h.2.2 x hm) y hy
      have hk : v.k = 5 := by
        by_cases hk : v.k = 5
        · exact hk
        · have := ok.l hk; rw [this] at hx; simp at hx
      have hp : partV v (idxStep j) = (x, 0) := by
        unfold partV idxStep
        rw [if_neg (show ¬ ((j : Int) < 0) by omega), if_neg (fun e => e hk), show ((j : Int)).toNat = j from rfl, hx]
      refine ⟨?_, by simp only [List.length_cons]; omega, fun s hs => ?_⟩
      · show (if (partV v (idxStep j)).2 = 0 then getV (partV v (idxStep j)).1 y.1 else _) = _
        rw [hp, if_pos rfl]; exact i1
      · rcases List.mem_cons.1 hs with rfl | hs
        · exact stepOk_idx j
        · exact i3 s hs
    · obtain ⟨x, y, hx, hy, rfl⟩ := mem_pairsE hz
      have hm : x.2 ∈ v.parts := List.mem_append_right _ (List.mem_map_of_mem hx)
      obtain ⟨i1, i2, i3⟩ := pairs_get d x.2 (h.2.2 x.2 hm) y hy
      have hk : v.k = 6 := by
        by_cases hk : v.k = 6
        · exact hk
        · have := ok.e hk; rw [this] at hx; cases hx
      obtain ⟨j, hj, hjx⟩ := List.getElem_of_mem hx
      have hje : v.e[j]? = some x := by rw [List.getElem?_eq_getElem hj, hjx]
      have hf := fidx_key h.2.1 hje
      have hp : partV v (keyStep x.1) = (x.2, 0) := by
        unfold partV keyStep
        simp only [bs_key]
        rw [if_pos (by decide), if_neg (fun e => e hk), hf, hje]
      refine ⟨?_, by simp only [List.length_cons]; omega, fun s hs => ?_⟩
      · show (if (partV v (keyStep x.1)).2 = 0 then getV (partV v (keyStep x.1)).1 y.1 else _) = _
        rw [hp, if_pos rfl]; exact i1
      · rcases List.mem_cons.1 hs with rfl | hs
        · obtain ⟨k1, k2⟩ := keyE_short v.e none h.2.1 x hx
          refine ⟨by show (-1 : Int) ≤ -1; decide, fun h => absurd (show (0 : Int) ≤ -1 from h) (by decide), ?_, k2⟩
          show x.1.data.toList.length ≤ 100
          have : x.1.data.toList.length = x.1.size := Array.length_toList
          omega
        · exact i3 s hs
theorem key_inj {a b : ByteArray} (h : keyStep a = keyStep b) : a.toList = b.toList := by
  have := (Prod.mk.inj h).1
  rw [ByteArray.toList_eq, ByteArray.toList_eq, this]
/-- no two are the same -/
theorem pairs_nodup : ∀ (d : Nat) (v : V), Gd d v → ((pairsD d v).map (·.1)).Nodup
  | 0, v, h => h.elim
  | d + 1, v, h => by
    have hu : ∀ (s : Step) (x : V), Gd d x → ((under s (pairsD d x)).map (·.1)).Nodup := by
      intro s x hx
      have := pairs_nodup d x hx
      unfold under
      rw [List.map_map]
      rw [List.Nodup, List.pairwise_map] at this ⊢
      exact this.imp (fun hne e => hne (List.cons.inj e).2)
    have hL : ∀ (l : List V) (i : Nat), (∀ x ∈ l, x ∈ v.parts) → ((pairsL (pairsD d) i l).map (·.1)).Nodup := by
      intro l
      induction l with
      | nil => intro i _; exact List.nodup_nil
      | cons x l ih =>
        intro i hl
        rw [pairsL, List.map_append, List.nodup_append]
        refine ⟨hu _ x (h.2.2 x (hl x (by simp))), ih (i + 1) (fun y hy => hl y (by simp [hy])), fun a ha b hb e => ?_⟩
        obtain ⟨z, hz, rfl⟩ := List.mem_map.1 ha
        obtain ⟨y, -, rfl⟩ := List.mem_map.1 hz
        obtain ⟨z2, hz2, rfl⟩ := List.mem_map.1 hb
        obtain ⟨j, x', y2, -, -, rfl⟩ := mem_pairsL hz2
        have h1 := (List.cons.inj e).1
        have h2 := (Prod.mk.inj h1).2
        omega
    have hE : ∀ (l : List (ByteArray × V)), (∀ x ∈ l, x.2 ∈ v.parts) → l.Pairwise (fun x y => Op.bytesLess x.1.toList y.1.toList = true) → ((pairsE (pairsD d) l).map (·.1)).Nodup := by
      intro l
      induction l with
      | nil => intro _ _; exact List.nodup_nil
      | cons x l ih =>
        intro hl hp
        rw [List.pairwise_cons] at hp
        rw [pairsE, List.map_append, List.nodup_append]
        refine ⟨hu _ x.2 (h.2.2 x.2 (hl x (by simp))), ih (fun y hy => hl y (by simp [hy])) hp.2, fun a ha b hb e => ?_⟩
        obtain ⟨z, hz, rfl⟩ := List.mem_map.1 ha
        obtain ⟨y, -, rfl⟩ := List.mem_map.1 hz
        obtain ⟨z2, hz2, rfl⟩ := List.mem_map.1 hb
        obtain ⟨x', y2, hx', -, rfl⟩ := mem_pairsE hz2
        have h1 := key_inj (List.cons.inj e).1
        have h2 := hp.1 x' hx'
        rw [h1, bl_irr] at h2
        cases h2
    rw [pairsD, List.map_cons, List.map_append, List.nodup_cons, List.nodup_append]
    refine ⟨fun hm => ?_, hL v.l 0 (fun x hx => List.mem_append_left _ hx), hE v.e (fun x hx => List.mem_append_right _ (List.mem_map_of_mem hx)) (keys_pair v.e none h.2.1), fun a ha b hb e => ?_⟩
    · rcases List.mem_append.1 hm with hm | hm
      · obtain ⟨z, hz, e⟩ := List.mem_map.1 hm
        obtain ⟨j, x', y2, -, -, rfl⟩ := mem_pairsL hz
        cases e
      · obtain ⟨z, hz, e⟩ := List.mem_map.1 hm
        obtain ⟨x', y2, -, -, rfl⟩ := mem_pairsE hz
        cases e
    · obtain ⟨z, hz, rfl⟩ := List.mem_map.1 ha
      obtain ⟨j, x', y2, -, -, rfl⟩ := mem_pairsL hz
      obtain ⟨z2, hz2, rfl⟩ := List.mem_map.1 hb
      obtain ⟨x3, y3, -, -, rfl⟩ := mem_pairsE hz2
      have h1 := (Prod.mk.inj (List.cons.inj e).1).2
      omega
/-- what PathAll asks of the paths -/
structure AllOk (v : V) (ps : List (List Step)) (us : List V) : Prop where
  len : ps.length = v.nodes
  ulen : us.length = ps.length
  sum : (us.map fun u => u.l.length + u.e.length).sum + 1 = v.nodes
  get : ∀ (j : Nat) (p : List Step) (u : V), ps[j]? = some p → us[j]? = some u → getV v p = (u, 0) ∧ PathOk p
  first : ps[0]? = some [] ∧ us[0]? = some v
  dif : ∀ (i j : Nat) (p q : List Step), i < j → ps[i]? = some p → ps[j]? = some q → p ≠ q
theorem all_ok {v : V} (h : Gd 20 v) : AllOk v (pathsD 20 v []) (subsD 20 v) := by
  have hp : pathsD 20 v [] = (pairsD 20 v).map (·.1) := by rw [paths_pairs]; simp
  have hs := subs_pairs 20 v
  refine ⟨paths_len 20 v h [], by rw [hp, hs, List.length_map, List.length_map], subs_sum 20 v h, fun j p u h1 h2 => ?_, ⟨rfl, rfl⟩, fun i j p q hij h1 h2 e => ?_⟩
  · rw [hp, List.getElem?_map] at h1
    rw [hs, List.getElem?_map] at h2
    obtain ⟨z, hz, rfl⟩ := Option.map_eq_some_iff.1 h1
    rw [hz] at h2
    cases h2
    obtain ⟨g1, g2, g3⟩ := pairs_get 20 v h z (List.mem_of_getElem? hz)
    exact ⟨g1, by omega, g3⟩
  · have hn := pairs_nodup 20 v h
    rw [← hp, List.Nodup, List.pairwise_iff_getElem] at hn
    obtain ⟨hi, rfl⟩ := List.getElem?_eq_some_iff.1 h1
    obtain ⟨hj, rfl⟩ := List.getElem?_eq_some_iff.1 h2
    exact hn i j hi hj hij e
end Go.Proofs.YtpjigecmnefnhaaDoor
