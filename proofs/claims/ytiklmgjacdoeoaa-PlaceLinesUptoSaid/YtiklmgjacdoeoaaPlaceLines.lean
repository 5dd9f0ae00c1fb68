/-
  The walk of typecasekeep.PlaceLines. Condition: the text has at most 1048576 bytes.
-/
import Derived.Test.YtiklmgjacdoeoaaLine
import Derived.Test.YtiklmgjacdoeoaaPlaceOrderWalk
namespace Go.Proofs.Ytiklmgjacdoeoaa
open Go.RowKit

theorem Try.info_string : (Try.prog.info? 9).map (fun i => (i.zero, i.size, i.bytes)) = some (some (.string ⟨#[]⟩), 1, 16) := by kernel_rfl

/-- the lines as strings -/
def strs (L : List (List UInt8)) : List Value := L.map fun x => Value.string ⟨x.toArray⟩

theorem strs_snoc (L : List (List UInt8)) (i : Nat) (hi : i < L.length) : strs (L.take (i + 1)) = strs (L.take i) ++ [Value.string ⟨(L.getD i []).toArray⟩] := by
  unfold strs
  rw [List.take_succ_eq_append_getElem hi, List.map_append]
  congr 1
  simp [List.getD, List.getElem?_eq_getElem hi]

set_option maxRecDepth 4000 in
set_option maxHeartbeats 2000000 in
theorem placeLines_walk (s : ByteArray) (w : World) (hs : s.size ≤ 1048576) :
    Calls Try.prog 6 #[.string s] w (TruePost w) := by
  have hlen : (startsOf s.data.toList).length = (linesOf s.data.toList).length := by rw [startsOf_lines, startsL_len]
  have hl2 : (startsOf s.data.toList).length ≤ 1048577 := by have := startsOf_len s.data.toList; simp at this; omega
  have hl1 : 1 ≤ (linesOf s.data.toList).length := by
    obtain ⟨x, r, h⟩ := linesOf_cons s.data.toList
    rw [h]; simp
  have hlines := fun i w hi => line_ok s i w hs hi
  have h10 : ∀ i, i < (linesOf s.data.toList).length → Lib.indexByte ((linesOf s.data.toList).getD i []) 10 = -1 := by
    intro i hi
    refine indexByte_last _ ?_
    have := linesOf_no10 s.data.toList _ (List.getElem_mem hi)
    simpa [List.getD, List.getElem?_eq_getElem hi] using this
  have hend := fun w => line_no s (((linesOf s.data.toList).length : Int) + 1) w hs (by omega)
  have hjoin : (⟨(Lib.join (linesOf s.data.toList) [10]).toArray⟩ : ByteArray) = s := by
    rw [joined_join, joined_lines]
  have hjl : (Lib.join (linesOf s.data.toList) [10]).length ≤ 1048576 := by
    rw [joined_join, joined_lines, ← Lib.size_eq]; exact hs
  obtain ⟨L, hL⟩ : ∃ L, L = linesOf s.data.toList := ⟨_, rfl⟩
  rw [← hL] at hlen hl1 hlines h10 hend hjoin hjl
  have HLINES := Lib.hid hlines
  have H10 := Lib.hid h10
  have HEND := Lib.hid hend
  have HJ := Lib.hid hjoin
  have HJL := Lib.hid hjl
  have HS := Lib.hid (fun w => starts_any s w hs)
  unfold StartsPost at HS
  obtain ⟨q, hq⟩ : ∃ q, q = L.length := ⟨_, rfl⟩
  rw [← hq] at hlen hl1 hend HEND
  rw [hlen] at HS
  have hq2 : q ≤ 1048577 := by omega
  have HQ := Lib.hid hq
  clear hL hlines h10 hend hjoin hjl hlen hl2 hq
  go_enter Try.func6, Try.ntmps6
  go_wp2_with fail
  refine (places_any w).mono ?_
  rintro e w1 ⟨rfl, hb1⟩
  go_wp2_with fail
  refine (HS.out w1).mono ?_
  rintro e w2 ⟨g, cap, rfl, -, -, -, -, hb⟩
  have hb2 : Below w.heap.size w w2 := hb1.trans (hb.mono hb1.size)
  clear hb hb1 HS
  go_wp2_with fail
  go_loopw [4, 5] (fun v iv wr => ∃ i : Nat, i ≤ q ∧ iv = .int .i64 ((i : Int) + 1) ∧ wr.ownsRow w.heap.size 9 1 v i (strs (L.take i)) ∧ Below w.heap.size w wr)
    (fun _ iv _ => q + 1 - (intOf iv).toNat)
  case atStart => exact ⟨0, Nat.zero_le _, rfl, by simpa [strs] using World.ownsRow_nil _ _ _ _, hb2⟩
  case round =>
    clear hb2
    obtain ⟨i, hi, rfl, hown, hb⟩ := hrel
    by_cases hlt : i < q
    · have hil : i < L.length := by have := HQ.out; omega
      have hls := HLINES.out i wr hil
      have hsn := strs_snoc L i hil
      have hno := H10.out i hil
      obtain ⟨x, hx⟩ : ∃ x, x = L.getD i [] := ⟨_, rfl⟩
      rw [← hx] at hls hsn hno
      obtain ⟨X, hX⟩ : ∃ X : ByteArray, X = ⟨x.toArray⟩ := ⟨_, rfl⟩
      unfold LinePost at hls
      rw [← hX] at hls hsn
      have hcon := fun w => Try.strings_Contains_one X 10 w
      rw [show X.data.toList = x by rw [hX], hno] at hcon
      have HLS := Lib.hid hls
      have HSN := Lib.hid hsn
      have HCON := Lib.hid hcon
      clear hls hsn hno hcon hx hX hil
      have i1 : ¬ ((q : Int) < (i : Int) + 1) := by omega
      have i2 : decide ((i : Int) + 1 ≤ (q : Int)) = true := decide_eq_true (by omega)
      go_wp2_with fail
      refine HLS.out.mono ?_
      rintro e w3 ⟨rfl, hbl⟩
      have hown3 := Gx.own_keep hown hbl
      have hb3 : Below w.heap.size w w3 := hb.trans (hbl.mono hb.size)
      clear hown hbl hb
      go_wp2_with fail
      refine (HCON.out w3).mono ?_
      rintro e w4 ⟨rfl, rfl⟩
      have hsz := hb3.size
      go_wp2_with (first
        | (at_builtin; refine Gx.wpList_push w4 rfl _ _ 38 rfl w.heap.size 9 (.string ⟨#[]⟩) 1 16 Try.underlying38 Try.info_string rfl (by decide) _ _ _ [.string X] _ rfl rfl (by exact hown3) rfl rfl ?a2 ?a3 ?a4 ?a5 ?_))
      case a2 => intro u hu; simp at hu; subst hu; rfl
      case a3 => omega
      case a4 => omega
      case a5 => omega
      intro v' w5 hown4 hg2 _ _
      have hb4 : Below w.heap.size w w5 := hb3.grown hg2 hsz (fun k e => (hown3.lt k e).1)
      have hown5 : w5.ownsRow w.heap.size 9 1 v' (i + 1) (strs (L.take (i + 1))) := by rw [HSN.out]; exact hown4
      clear hown3 hown4 hg2 hb3
      go_wp2
      go_roundw
      case rel => exact ⟨i + 1, by omega, by go_num, hown5, hb4⟩
      case measure => simp [intOf]; omega
    · obtain rfl : i = q := by omega
      have ht : L.take i = L := by have := HQ.out; exact List.take_of_length_le (by omega)
      rw [ht] at hown
      obtain ⟨g2, cap2, rfl, hg2, hnc, hlt2, hcells⟩ := Gx.own_cell hown (by omega)
      have hJ := fun w' (h : Below wr.heap.size wr w') => Try.strings_Join g2 0 cap2 (L.map fun x => ⟨x.toArray⟩) ⟨#[10]⟩ w' (by
        intro j x hj
        rw [Nat.zero_add, h.cell (p := ⟨g2, j, none⟩) hlt2]
        refine hcells j _ ?_
        unfold strs
        rw [List.getElem?_map] at hj ⊢
        cases hjj : L[j]? with
        | none => rw [hjj] at hj; simp at hj
        | some y => rw [hjj] at hj; simp at hj; subst hj; rfl) (Nat.lt_of_lt_of_le hlt2 h.size) (by rw [List.length_map, ← HQ.out]; omega) (by rw [List.length_map, ← HQ.out]; exact hnc)
        (by rw [List.map_map]; simpa [Function.comp_def] using Nat.le_trans HJL.out (by decide))
      have hmm : ((L.map fun x => (⟨x.toArray⟩ : ByteArray)).map (·.data.toList)) = L := by
        rw [List.map_map]; simp [Function.comp_def]
      simp only [hmm] at hJ
      have e10 : (⟨#[10]⟩ : ByteArray).data.toList = [10] := rfl
      simp only [e10, HJ.out, List.length_map, ← HQ.out] at hJ
      have HJJ := Lib.hid hJ
      have HE := Lib.hid (HEND.out wr)
      unfold LinePost at HE
      clear hJ hmm hcells hown ht
      have i2 : decide ((i : Int) + 1 ≤ (i : Int)) = false := decide_eq_false (by omega)
      go_wp2_with fail
      refine HE.out.mono ?_
      rintro e w6 ⟨rfl, hb6⟩
      have hb7 : Below w.heap.size w w6 := hb.trans (hb6.mono hb.size)
      go_wp2_with fail
      refine (HJJ.out w6 hb6).mono ?_
      rintro e w8 ⟨rfl, hb8⟩
      have hb9 : Below w.heap.size w w8 := hb7.trans (hb8.mono hb7.size)
      go_wp2
      go_ret
      exact ⟨by simp, hb9⟩
end Go.Proofs.Ytiklmgjacdoeoaa
