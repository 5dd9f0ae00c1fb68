/-
  The contract of path.step. Conditions: the library's tables and errors; the text has at most 2^47 bytes.
-/
import Derived.Test.YtopfkelhgffomaaDoorPathInt
import Derived.StillTailTactics
import Derived.Deep.WholeRow
import Derived.Deep.RegionHeld3
namespace Go.Proofs.YtopfkelhgffomaaDoor
open Go.RowKit Gx
set_option maxRecDepth 100000

/-- a store into a block of two cells, and what is read there then -/
theorem res_store {w : World} {b : Nat} {x y : Value} {ty : TypeId} (h : w.heap[b]? = some (.cells #[x, y] ty)) (u v : Value) :
    w.cell? ⟨b, 0, none⟩ = some x ∧ w.frozen? ⟨b, 0, none⟩ = false ∧ (w.setCell ⟨b, 0, none⟩ u).cell? ⟨b, 1, none⟩ = some y ∧ (w.setCell ⟨b, 0, none⟩ u).frozen? ⟨b, 1, none⟩ = false ∧
    ((w.setCell ⟨b, 0, none⟩ u).setCell ⟨b, 1, none⟩ v).cell? ⟨b, 0, none⟩ = some u ∧ ((w.setCell ⟨b, 0, none⟩ u).setCell ⟨b, 1, none⟩ v).cell? ⟨b, 1, none⟩ = some v ∧ (w.setCell ⟨b, 0, none⟩ u).cell? ⟨b, 0, none⟩ = some u := by
  have c0 : w.cell? ⟨b, 0, none⟩ = some x := by simp [World.cell?, h]
  have c1 : w.cell? ⟨b, 1, none⟩ = some y := by simp [World.cell?, h]
  have h2 : (w.setCell ⟨b, 0, none⟩ u).heap[b]? = some (.cells #[u, y] ty) := by simp [World.setCell, Array.getElem?_modify, h]
  have h3 : ((w.setCell ⟨b, 0, none⟩ u).setCell ⟨b, 1, none⟩ v).heap[b]? = some (.cells #[u, v] ty) := by
    show ((w.setCell ⟨b, 0, none⟩ u).heap.modify b _)[b]? = _
    rw [Array.getElem?_modify, if_pos rfl, h2]
    simp
  exact ⟨c0, by simp [World.frozen?, h], by simp [World.cell?, h2], by simp [World.frozen?, h2], by simp [World.cell?, h3], by simp [World.cell?, h3], by simp [World.cell?, h2]⟩
theorem res_cells {w : World} {b : Nat} {x y : Value} {ty : TypeId} (h : w.heap[b]? = some (.cells #[x, y] ty)) :
    w.cell? ⟨b, 0, none⟩ = some x ∧ w.cell? ⟨b, 1, none⟩ = some y ∧ w.frozen? ⟨b, 0, none⟩ = false ∧ w.frozen? ⟨b, 1, none⟩ = false :=
  ⟨by simp [World.cell?, h], by simp [World.cell?, h], by simp [World.frozen?, h], by simp [World.frozen?, h]⟩
theorem res_below {w w' : World} {b : Nat} (h : Below b w w') (u v : Value) : Below b w ((w'.setCell ⟨b, 0, none⟩ u).setCell ⟨b, 1, none⟩ v) := (h.setCell (Nat.le_refl _) u).setCell (Nat.le_refl _) v

def StepP (l : List UInt8) (w : World) (e : Ending) (w' : World) : Prop :=
  ((∃ x r, readStep l = some (x, r) ∧ e = .returned (.tuple #[.agg #[.string (bs x.1), .int .i64 x.2], .string (bs r), .bool true])) ∨
   (readStep l = none ∧ ∃ K n R, e = .returned (.tuple #[.agg #[.string K, .int .i64 n], .string R, .bool false]))) ∧ Below w.heap.size w w'

set_option maxHeartbeats 8000000 in
theorem step_index_any (s : ByteArray) (t : List UInt8) (w : World) (hT : PTabs w) (hs : s.size ≤ 140737488351232) (hl : s.data.toList = 91 :: t) : Calls Tryd.prog 11 #[.string s] w (StepP s.data.toList w) := by
  have hC := Tryd.strings_CutPrefix s ⟨#[91]⟩
  rw [hl] at hC
  have e1 : Lib.hasPrefix (91 :: t) (⟨#[91]⟩ : ByteArray).data.toList = true := by
    show Lib.hasPrefix (91 :: t) [91] = true
    rw [hasPrefix_one]; rfl
  have e2 : Lib.trimPrefix (91 :: t) (⟨#[91]⟩ : ByteArray).data.toList = t := by
    unfold Lib.trimPrefix
    rw [if_pos e1]; rfl
  rw [e1, e2] at hC
  have hsz : s.size = t.length + 1 := by rw [Lib.size_eq, hl]; rfl
  have hrs : readStep s.data.toList = stepIndex t := by rw [hl]; rfl
  have hHY : ∀ x r w', stepIndex t = some (x, r) → Below w.heap.size w w' → StepP s.data.toList w (.returned (.tuple #[.agg #[.string (bs x.1), .int .i64 x.2], .string (bs r), .bool true])) w' := fun x r w' h hb => ⟨.inl ⟨x, r, hrs.trans h, rfl⟩, hb⟩
  have hHN : ∀ K n R w', stepIndex t = none → Below w.heap.size w w' → StepP s.data.toList w (.returned (.tuple #[.agg #[.string K, .int .i64 n], .string R, .bool false])) w' := fun K n R w' h hb => ⟨.inr ⟨hrs.trans h, K, n, R, rfl⟩, hb⟩
  generalize StepP s.data.toList w = POST at *
  have HY := Lib.hid hHY
  have HN := Lib.hid hHN
  have HC := Lib.hid hC
  have HCut := Lib.hid (fun w0 => cut_any (bs t) w0 (by rw [bs_size]; omega))
  have HT := Lib.hid hT
  have hle := findB_le (· == 93) t
  have HP := Lib.hid (fun w0 h0 => pint_any (bs (t.take (findB (· == 93) t))) w0 h0 (by rw [bs_size, List.length_take]; omega))
  unfold cutP at HCut
  rw [list_bs] at HCut
  have hix : stepIndex t = match Lib.parseIntB 64 (t.take (findB (· == 93) t)) with
    | .ok n => if 0 ≤ n ∧ n ≤ 4611686018427387904 then some (([], n), t.drop (findB (· == 93) t + 1)) else none
    | _ => none := rfl
  have HIX := Lib.hid hix
  unfold IntP at HP
  rw [list_bs] at HP
  generalize (t.take (findB (· == 93) t)) = D at *
  generalize (t.drop (findB (· == 93) t + 1)) = Y at *
  generalize (decide (findB (· == 93) t < t.length)) = b at *
  clear hC hHY hHN hT hix e1 e2 hrs hl hle
  go_enter Tryd.func11, Tryd.ntmps11
  go_wp2_with fail
  refine (HC.out _).mono ?_
  rintro e0 w1 ⟨rfl, rfl⟩
  go_wp2_with fail
  refine (HCut.out _).mono ?_
  rintro e0 w2 ⟨rfl, hb2⟩
  have hw2 : Below w.heap.size w w2 := ((Below.refl _ _).alloc (Nat.le_refl _) _).trans (hb2.mono (by simp))
  have hh2 : w2.heap[w.heap.size]? = some (.cells #[.string ⟨#[]⟩, .int .i64 0] 28) := by
    rw [hb2.block _ (by simp)]
    exact heap_alloc_last w _
  have hz2 : w.heap.size < w2.heap.size := (Array.getElem?_eq_some_iff.1 hh2).1
  have HW2 := Lib.hid hw2
  have HH2 := Lib.hid hh2
  clear hb2 hw2 hh2
  go_wp2_with fail
  refine (HP.out _ (HT.out.keep HW2.out)).mono ?_
  rintro e0 w3 ⟨⟨v, hv, rfl⟩ | ⟨hv, n, N, rfl⟩, hb3⟩
  · have hw3 : Below w.heap.size w w3 := HW2.out.trans (hb3.mono (by omega))
    have hh3 : w3.heap[w.heap.size]? = some (.cells #[.string ⟨#[]⟩, .int .i64 0] 28) := by
      rw [hb3.block _ hz2]; exact HH2.out
    obtain ⟨q0, q1, q2, q3, q4, q5, q6⟩ := res_store hh3 (.string ⟨#[]⟩) (.int .i64 v)
    have HR := Lib.hid (res_below hw3 (.string ⟨#[]⟩) (.int .i64 v))
    have HV := Lib.hid hv
    clear hb3 hw3 hv hh3
    by_cases v0 : 0 ≤ v
    · by_cases v1 : v ≤ 4611686018427387904
      · have u0 : decide (0 ≤ v) = true := decide_eq_true v0
        have u1 : decide (v ≤ 4611686018427387904) = true := decide_eq_true v1
        have F := Lib.hid (HY.out ([], v) Y _ (by rw [HIX.out, HV.out]; exact if_pos ⟨v0, v1⟩) HR.out)
        go_wp2_with fail
        exact bodyPost_ret (v := .tuple #[.agg #[.string ⟨#[]⟩, .int .i64 v], .string (bs Y), .bool true]) (by simp [results, Tryd.results11, go_sem, q4, q5, q6]) rfl F.out
      · have u0 : decide (0 ≤ v) = true := decide_eq_true v0
        have u1 : decide (v ≤ 4611686018427387904) = false := decide_eq_false v1
        have F := Lib.hid (HN.out ⟨#[]⟩ v (bs Y) _ (by rw [HIX.out, HV.out]; exact if_neg (fun h => v1 h.2)) HR.out)
        go_wp2_with fail
        exact bodyPost_ret (v := .tuple #[.agg #[.string ⟨#[]⟩, .int .i64 v], .string (bs Y), .bool false]) (by simp [results, Tryd.results11, go_sem, q4, q5, q6]) rfl F.out
    · have u0 : decide (0 ≤ v) = false := decide_eq_false v0
      have F := Lib.hid (HN.out ⟨#[]⟩ v (bs Y) _ (by rw [HIX.out, HV.out]; exact if_neg (fun h => v0 h.1)) HR.out)
      go_wp2_with fail
      exact bodyPost_ret (v := .tuple #[.agg #[.string ⟨#[]⟩, .int .i64 v], .string (bs Y), .bool false]) (by simp [results, Tryd.results11, go_sem, q4, q5, q6]) rfl F.out
  · have hw3 : Below w.heap.size w w3 := HW2.out.trans (hb3.mono (by omega))
    have hh3 : w3.heap[w.heap.size]? = some (.cells #[.string ⟨#[]⟩, .int .i64 0] 28) := by
      rw [hb3.block _ hz2]; exact HH2.out
    obtain ⟨q0, q1, q2, q3, q4, q5, q6⟩ := res_store hh3 (.string ⟨#[]⟩) (.int .i64 n)
    have hno : stepIndex t = none := by
      rw [HIX.out]
      cases hp : Lib.parseIntB 64 D with
      | ok v => exact absurd hp (hv v)
      | «syntax» => rfl
      | range => rfl
    have F := Lib.hid (HN.out ⟨#[]⟩ n (bs Y) _ hno (res_below hw3 (.string ⟨#[]⟩) (.int .i64 n)))
    clear hb3 hw3 hv hh3 hno
    go_wp2_with fail
    exact bodyPost_ret (v := .tuple #[.agg #[.string ⟨#[]⟩, .int .i64 n], .string (bs Y), .bool false]) (by simp [results, Tryd.results11, go_sem, q4, q5, q6]) rfl F.out
end Go.Proofs.YtopfkelhgffomaaDoor
