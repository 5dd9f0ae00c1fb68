/-
  The contract of path.step: the other branches. Conditions: the library's tables and errors; the text has at most 2^47 - 4096 bytes.
-/
import Derived.Test.YtopfkelhgffomaaDoorPathStep
namespace Go.Proofs.YtopfkelhgffomaaDoor
open Go.RowKit Gx
set_option maxRecDepth 100000

theorem cutPre_no (s : ByteArray) (c : UInt8) (w : World) (h : s.data.toList.head? ≠ some c) : Calls Tryd.prog 10 #[.string s, .string ⟨#[c]⟩] w fun e w' => e = .returned (.tuple #[.string s, .bool false]) ∧ w' = w := by
  have hC := Tryd.strings_CutPrefix s ⟨#[c]⟩ w
  have e1 : Lib.hasPrefix s.data.toList (⟨#[c]⟩ : ByteArray).data.toList = false := by
    show Lib.hasPrefix s.data.toList [c] = false
    rw [hasPrefix_one, decide_eq_false h]
  have e2 : Lib.trimPrefix s.data.toList (⟨#[c]⟩ : ByteArray).data.toList = s.data.toList := by
    unfold Lib.trimPrefix
    rw [e1]; rfl
  rw [e1, e2] at hC
  exact hC
theorem cutPre_yes (s : ByteArray) (c : UInt8) (t : List UInt8) (w : World) (hl : s.data.toList = c :: t) : Calls Tryd.prog 10 #[.string s, .string ⟨#[c]⟩] w fun e w' => e = .returned (.tuple #[.string (bs t), .bool true]) ∧ w' = w := by
  have hC := Tryd.strings_CutPrefix s ⟨#[c]⟩ w
  rw [hl] at hC
  have e1 : Lib.hasPrefix (c :: t) (⟨#[c]⟩ : ByteArray).data.toList = true := by
    show Lib.hasPrefix (c :: t) [c] = true
    rw [hasPrefix_one]; simp
  have e2 : Lib.trimPrefix (c :: t) (⟨#[c]⟩ : ByteArray).data.toList = t := by
    unfold Lib.trimPrefix
    rw [if_pos e1]; rfl
  rw [e1, e2] at hC
  exact hC

set_option maxHeartbeats 4000000 in
theorem step_none_any (s : ByteArray) (w : World) (h1 : s.data.toList.head? ≠ some 91) (h2 : s.data.toList.head? ≠ some 46) : Calls Tryd.prog 11 #[.string s] w (StepP s.data.toList w) := by
  have H1 := Lib.hid (fun w0 => cutPre_no s 91 w0 h1)
  have H2 := Lib.hid (fun w0 => cutPre_no s 46 w0 h2)
  have hrs : readStep s.data.toList = none := by unfold readStep; rw [if_neg h1, if_neg h2]
  have hHN : ∀ w', Below w.heap.size w w' → StepP s.data.toList w (.returned (.tuple #[.agg #[.string ⟨#[]⟩, .int .i64 0], .string ⟨#[]⟩, .bool false])) w' := fun w' hb => ⟨.inr ⟨hrs, _, _, _, rfl⟩, hb⟩
  generalize StepP s.data.toList w = POST at *
  have F := Lib.hid (hHN _ ((Below.refl _ _).alloc (Nat.le_refl _) (.cells #[.string ⟨#[]⟩, .int .i64 0] 28)))
  clear hHN hrs h1 h2
  go_enter Tryd.func11, Tryd.ntmps11
  go_wp2_with fail
  refine (H1.out _).mono ?_
  rintro e0 w1 ⟨rfl, rfl⟩
  go_wp2_with fail
  refine (H2.out _).mono ?_
  rintro e0 w1 ⟨rfl, rfl⟩
  go_wp2_with fail
  exact bodyPost_ret (v := .tuple #[.agg #[.string ⟨#[]⟩, .int .i64 0], .string ⟨#[]⟩, .bool false]) (by simp [results, Tryd.results11, go_sem]) rfl F.out

set_option maxHeartbeats 8000000 in
theorem step_quote_any (s : ByteArray) (t : List UInt8) (w : World) (hT : PTabs w) (hs : s.size ≤ 140737488351232) (hl : s.data.toList = 46 :: t) (hq : t.head? = some 34) : Calls Tryd.prog 11 #[.string s] w (StepP s.data.toList w) := by
  have H1 := Lib.hid (fun w0 => cutPre_no s 91 w0 (by rw [hl]; simp))
  have H2 := Lib.hid (fun w0 => cutPre_yes s 46 t w0 hl)
  have hsz : s.size = t.length + 1 := by rw [Lib.size_eq, hl]; rfl
  have hrs : readStep s.data.toList = match unquote t with
    | some (rs, n) => some ((encs rs, -1), t.drop n)
    | none => none := by
    rw [hl]
    show stepKey t = _
    unfold stepKey
    rw [if_pos hq]
    cases unquote t <;> rfl
  have H3 := Lib.hid (fun w0 => Tryd.strings_HasPrefix (bs t) ⟨#[34]⟩ w0)
  rw [show Lib.hasPrefix (bs t).data.toList (⟨#[34]⟩ : ByteArray).data.toList = true by
    show Lib.hasPrefix t [34] = true
    rw [hasPrefix_one, decide_eq_true hq]] at H3
  have H4 := Lib.hid (fun w0 h0 => unquote_any (bs t) w0 h0 (by rw [bs_size]; omega))
  unfold UnqPost at H4
  rw [list_bs] at H4
  have hHY : ∀ rs n w', unquote t = some (rs, n) → Below w.heap.size w w' → StepP s.data.toList w (.returned (.tuple #[.agg #[.string (bs (encs rs)), .int .i64 (-1)], .string (bs (t.drop n)), .bool true])) w' := fun rs n w' h hb => ⟨.inl ⟨(encs rs, -1), t.drop n, by rw [hrs, h], rfl⟩, hb⟩
  have hHN : ∀ K n R w', unquote t = none → Below w.heap.size w w' → StepP s.data.toList w (.returned (.tuple #[.agg #[.string K, .int .i64 n], .string R, .bool false])) w' := fun K n R w' h hb => ⟨.inr ⟨by rw [hrs, h], K, n, R, rfl⟩, hb⟩
  generalize StepP s.data.toList w = POST at *
  have HY := Lib.hid hHY
  have HN := Lib.hid hHN
  have HT := Lib.hid hT
  clear hHY hHN hT hrs
  have zt := bs_size t
  go_enter Tryd.func11, Tryd.ntmps11
  go_wp2_with fail
  refine (H1.out _).mono ?_
  rintro e0 w1 ⟨rfl, rfl⟩
  go_wp2_with fail
  refine (H2.out _).mono ?_
  rintro e0 w1 ⟨rfl, rfl⟩
  go_wp2_with fail
  refine (H3.out _).mono ?_
  rintro e0 w1 ⟨rfl, rfl⟩
  go_wp2_with fail
  have hw1 : Below w.heap.size w (w.alloc (.cells #[.string ⟨#[]⟩, .int .i64 0] 28)) := (Below.refl _ _).alloc (Nat.le_refl _) _
  refine (H4.out _ (HT.out.keep hw1).e).mono ?_
  rintro e0 w2 (⟨rs, n, hu, rfl, hb2⟩ | ⟨hu, c, hc, rfl, hb2⟩)
  · have hn := (unquote_facts hu).2.2.1
    have hw2 : Below w.heap.size w w2.drew := (hw1.trans (hb2.mono (by simp))).trans (Gx.drewN_below w2 1 _)
    have hh2 : w2.drew.heap[w.heap.size]? = some (.cells #[.string ⟨#[]⟩, .int .i64 0] 28) := by
      show w2.heap[w.heap.size]? = _
      rw [hb2.block _ (by simp)]; exact heap_alloc_last w _
    obtain ⟨q0, q1, q2, q3, q4, q5, q6⟩ := res_store (w := w2) hh2 (.string (bs (encs rs))) (.int .i64 (-1))
    have F := Lib.hid (HY.out rs n _ hu (res_below hw2 (.string (bs (encs rs))) (.int .i64 (-1))))
    have n0 : (0 : Int) ≤ (n : Int) := by omega
    have n1 : (n : Int) ≤ ((bs t).size : Int) := by omega
    have n2 : (bs t).extract n (bs t).size = bs (t.drop n) := bytes_bs (by rw [Lib.extract_to_end, list_bs])
    have n3 : (bs t).extract n t.length = bs (t.drop n) := by rw [← zt]; exact n2
    have n4 : ((n : Nat) : Int).toNat = n := rfl
    obtain ⟨p0, p1, p2, p3⟩ := res_cells (w := w2) hh2
    obtain ⟨r0, r1, r2, r3⟩ := res_cells hh2
    clear hb2 hw2 hh2 hw1 hu
    rw [show (⟨(encs rs).toArray⟩ : ByteArray) = bs (encs rs) from rfl]
    go_wp2_with fail
    go_region_held3 (fun _ => True) (trivial) (fail)
    go_wp2_with fail
    exact bodyPost_ret (v := .tuple #[.agg #[.string (bs (encs rs)), .int .i64 (-1)], .string (bs (t.drop n)), .bool true]) (by simp [results, Tryd.results11, go_sem, q4, q5, q6, n2, n3]) rfl F.out
  · have hw2 : Below w.heap.size w w2.drew := (hw1.trans (hb2.mono (by simp))).trans (Gx.drewN_below w2 1 _)
    have hh2 : w2.drew.heap[w.heap.size]? = some (.cells #[.string ⟨#[]⟩, .int .i64 0] 28) := by
      show w2.heap[w.heap.size]? = _
      rw [hb2.block _ (by simp)]; exact heap_alloc_last w _
    obtain ⟨q0, q1, q2, q3, q4, q5, q6⟩ := res_store (w := w2) hh2 (.string ⟨#[]⟩) (.int .i64 (-1))
    have F := Lib.hid (HN.out ⟨#[]⟩ (-1) (bs t) _ hu (res_below hw2 (.string ⟨#[]⟩) (.int .i64 (-1))))
    have n0 : (c == 0) = false := by simpa using hc
    have n2 : (bs t).extract 0 (bs t).size = bs t := by simp
    have n3 : (bs t).extract 0 t.length = bs t := by rw [← zt]; exact n2
    obtain ⟨p0, p1, p2, p3⟩ := res_cells (w := w2) hh2
    obtain ⟨r0, r1, r2, r3⟩ := res_cells hh2
    clear hb2 hw2 hh2 hw1 hu
    go_wp2_with fail
    go_region_held3 (fun _ => True) (trivial) (fail)
    go_wp2_with fail
    exact bodyPost_ret (v := .tuple #[.agg #[.string ⟨#[]⟩, .int .i64 (-1)], .string (bs t), .bool false]) (by simp [results, Tryd.results11, go_sem, q4, q5, q6, n2, n3]) rfl F.out

def nEnd (t : List UInt8) : Nat := findB isEnd t
set_option maxHeartbeats 8000000 in
theorem step_bare_any (s : ByteArray) (t : List UInt8) (w : World) (hs : s.size ≤ 140737488351232) (hl : s.data.toList = 46 :: t) (hq : t.head? ≠ some 34) : Calls Tryd.prog 11 #[.string s] w (StepP s.data.toList w) := by
  have H1 := Lib.hid (fun w0 => cutPre_no s 91 w0 (by rw [hl]; simp))
  have H2 := Lib.hid (fun w0 => cutPre_yes s 46 t w0 hl)
  have hsz : s.size = t.length + 1 := by rw [Lib.size_eq, hl]; rfl
  have hrs : readStep s.data.toList = if bareOf (t.take (findB isEnd t)) = true then some ((t.take (findB isEnd t), -1), t.drop (findB isEnd t)) else none := by
    rw [hl]
    show stepKey t = _
    unfold stepKey
    rw [if_neg hq]
  have H3 := Lib.hid (fun w0 => Tryd.strings_HasPrefix (bs t) ⟨#[34]⟩ w0)
  rw [show Lib.hasPrefix (bs t).data.toList (⟨#[34]⟩ : ByteArray).data.toList = false by
    show Lib.hasPrefix t [34] = false
    rw [hasPrefix_one, decide_eq_false hq]] at H3
  have zt := bs_size t
  have hle := findB_le isEnd t
  have H4 := Lib.hid (fun w0 => any_any (bs t) w0 (by omega))
  unfold IdxP idxEnd at H4
  rw [list_bs] at H4
  have H5 := Lib.hid (fun w0 => bare_any (bs (t.take (findB isEnd t))) w0 (by rw [bs_size, List.length_take]; omega))
  unfold BoolB at H5
  rw [list_bs] at H5
  have hHY : ∀ w', bareOf (t.take (findB isEnd t)) = true → Below w.heap.size w w' → StepP s.data.toList w (.returned (.tuple #[.agg #[.string (bs (t.take (findB isEnd t))), .int .i64 (-1)], .string (bs (t.drop (findB isEnd t))), .bool true])) w' := fun w' h hb => ⟨.inl ⟨_, _, by rw [hrs, if_pos h], rfl⟩, hb⟩
  have hHN : ∀ w', bareOf (t.take (findB isEnd t)) = false → Below w.heap.size w w' → StepP s.data.toList w (.returned (.tuple #[.agg #[.string (bs (t.take (findB isEnd t))), .int .i64 (-1)], .string (bs (t.drop (findB isEnd t))), .bool false])) w' := fun w' h hb => ⟨.inr ⟨by rw [hrs, h]; rfl, _, _, _, rfl⟩, hb⟩
  have hF : ∀ w', Below w.heap.size w w' → StepP s.data.toList w (.returned (.tuple #[.agg #[.string (bs (t.take (findB isEnd t))), .int .i64 (-1)], .string (bs (t.drop (findB isEnd t))), .bool (bareOf (t.take (findB isEnd t)))])) w' := fun w' hb => by
    cases h : bareOf (t.take (findB isEnd t)) with
    | true => exact hHY w' h hb
    | false => exact hHN w' h hb
  generalize StepP s.data.toList w = POST at *
  have HF := Lib.hid hF
  clear hHY hHN hrs hF
  have n2 : (bs t).extract 0 (findB isEnd t) = bs (t.take (findB isEnd t)) := bytes_bs (by rw [ext_front, list_bs])
  have n3 : (bs t).extract (findB isEnd t) (bs t).size = bs (t.drop (findB isEnd t)) := bytes_bs (by rw [Lib.extract_to_end, list_bs])
  have n4 : (bs t).extract (findB isEnd t) t.length = bs (t.drop (findB isEnd t)) := by rw [← zt]; exact n3
  generalize bs (t.take (findB isEnd t)) = K at *
  generalize bs (t.drop (findB isEnd t)) = R at *
  generalize bareOf (t.take (findB isEnd t)) = b at *
  have hend : (findB isEnd t < t.length) ∨ findB isEnd t = t.length := by omega
  generalize findB isEnd t = E at *
  have e0 : (0 : Int) ≤ (E : Int) := by omega
  have e1 : (E : Int) ≤ ((bs t).size : Int) := by omega
  have e2 : (E : Int) ≤ (t.length : Int) := by omega
  have hw1 : Below w.heap.size w (w.alloc (.cells #[.string ⟨#[]⟩, .int .i64 0] 28)) := (Below.refl _ _).alloc (Nat.le_refl _) _
  have HW1 := Lib.hid hw1
  clear hw1
  rcases hend with hE | hE
  · rw [if_pos hE] at H4
    have t0 : decide ((E : Int) < 0) = false := decide_eq_false (by omega)
    go_enter Tryd.func11, Tryd.ntmps11
    go_wp2_with fail
    refine (H1.out _).mono ?_
    rintro e0 w1 ⟨rfl, rfl⟩
    go_wp2_with fail
    refine (H2.out _).mono ?_
    rintro e0 w1 ⟨rfl, rfl⟩
    go_wp2_with fail
    refine (H3.out _).mono ?_
    rintro e0 w1 ⟨rfl, rfl⟩
    go_wp2_with fail
    refine (H4.out _).mono ?_
    rintro e0 w2 ⟨rfl, hb2⟩
    have hw2 : Below w.heap.size w w2.drew := (HW1.out.trans (hb2.mono (by simp))).trans (Gx.drewN_below w2 1 _)
    have hh2 : w2.drew.heap[w.heap.size]? = some (.cells #[.string ⟨#[]⟩, .int .i64 0] 28) := by
      show w2.heap[w.heap.size]? = _
      rw [hb2.block _ (by simp)]; exact heap_alloc_last w _
    have HW2 := Lib.hid hw2
    have HH2 := Lib.hid hh2
    clear hb2 hw2 hh2
    have hz2 : w.heap.size < w2.drew.heap.size := (Array.getElem?_eq_some_iff.1 HH2.out).1
    go_wp2_with fail
    go_region_held3 (fun _ => True) (trivial) (first
      | (go_at_call 22; refine (H5.out w2.drew).mono ?_; rintro e w3 ⟨rfl, hb3⟩;
         have hh3 : w3.heap[w.heap.size]? = some (.cells #[.string ⟨#[]⟩, .int .i64 0] 28) := (hb3.block _ hz2).trans HH2.out;
         obtain ⟨q0, q1, q2, q3, q4, q5, q6⟩ := res_store hh3 (.string K) (.int .i64 (-1));
         have F := Lib.hid (HF.out _ (res_below (HW2.out.trans (hb3.mono (Nat.le_of_lt hz2))) (.string K) (.int .i64 (-1))))))
    go_wp2_with fail
    exact bodyPost_ret (v := .tuple #[.agg #[.string K, .int .i64 (-1)], .string R, .bool b]) (by simp [results, Tryd.results11, go_sem, q4, q5, q6]) rfl F.out
  · rw [if_neg (by omega)] at H4
    have n5 : (bs t).extract 0 (bs t).size = K := by rw [zt, ← hE]; exact n2
    have hR : R = ByteArray.empty := by rw [← n4, hE]; exact bytes_nil (by simp)
    have n7 : (bs t).extract 0 t.length = K := by rw [← hE]; exact n2
    have m0 : (0 : Int) ≤ ((bs t).size : Int) := by omega
    have m1 : (0 : Int) ≤ (t.length : Int) := by omega
    go_enter Tryd.func11, Tryd.ntmps11
    go_wp2_with fail
    refine (H1.out _).mono ?_
    rintro e0 w1 ⟨rfl, rfl⟩
    go_wp2_with fail
    refine (H2.out _).mono ?_
    rintro e0 w1 ⟨rfl, rfl⟩
    go_wp2_with fail
    refine (H3.out _).mono ?_
    rintro e0 w1 ⟨rfl, rfl⟩
    go_wp2_with fail
    refine (H4.out _).mono ?_
    rintro e0 w2 ⟨rfl, hb2⟩
    have hw2 : Below w.heap.size w w2.drew := (HW1.out.trans (hb2.mono (by simp))).trans (Gx.drewN_below w2 1 _)
    have hh2 : w2.drew.heap[w.heap.size]? = some (.cells #[.string ⟨#[]⟩, .int .i64 0] 28) := by
      show w2.heap[w.heap.size]? = _
      rw [hb2.block _ (by simp)]; exact heap_alloc_last w _
    have HW2 := Lib.hid hw2
    have HH2 := Lib.hid hh2
    clear hb2 hw2 hh2
    have hz2 : w.heap.size < w2.drew.heap.size := (Array.getElem?_eq_some_iff.1 HH2.out).1
    go_wp2_with fail
    go_region_held3 (fun _ => True) (trivial) (first
      | (go_at_call 22; refine (H5.out w2.drew).mono ?_; rintro e w3 ⟨rfl, hb3⟩;
         have hh3 : w3.heap[w.heap.size]? = some (.cells #[.string ⟨#[]⟩, .int .i64 0] 28) := (hb3.block _ hz2).trans HH2.out;
         obtain ⟨q0, q1, q2, q3, q4, q5, q6⟩ := res_store hh3 (.string K) (.int .i64 (-1));
         have F := Lib.hid (HF.out _ (res_below (HW2.out.trans (hb3.mono (Nat.le_of_lt hz2))) (.string K) (.int .i64 (-1))))))
    go_wp2_with fail
    exact bodyPost_ret (v := .tuple #[.agg #[.string K, .int .i64 (-1)], .string R, .bool b]) (by simp [results, Tryd.results11, go_sem, q4, q5, q6, hR]) rfl F.out
theorem step_any (s : ByteArray) (w : World) (hT : PTabs w) (hs : s.size ≤ 140737488351232) : Calls Tryd.prog 11 #[.string s] w (StepP s.data.toList w) := by
  by_cases h1 : s.data.toList.head? = some 91
  · obtain ⟨t, ht⟩ : ∃ t, s.data.toList = 91 :: t := by
      cases h : s.data.toList with
      | nil => rw [h] at h1; cases h1
      | cons a t => rw [h] at h1; cases h1; exact ⟨t, rfl⟩
    exact step_index_any s t w hT hs ht
  · by_cases h2 : s.data.toList.head? = some 46
    · obtain ⟨t, ht⟩ : ∃ t, s.data.toList = 46 :: t := by
        cases h : s.data.toList with
        | nil => rw [h] at h2; cases h2
        | cons a t => rw [h] at h2; cases h2; exact ⟨t, rfl⟩
      by_cases hq : t.head? = some 34
      · exact step_quote_any s t w hT hs ht hq
      · exact step_bare_any s t w hs ht hq
    · exact step_none_any s w h1 h2
end Go.Proofs.YtopfkelhgffomaaDoor
