/-
  The contract of tree.Source. Conditions: a text of at most 20000 bytes; tokens of its own; a variable of the library's holds some integer.
-/
import Derived.Test.YtfjeikijmconoaaMoved
import Derived.Test.YtfjeikijmconoaaTreeParse
namespace Go.Proofs.Ytfjeikijmconoaa
open Go.RowKit Gx
set_option maxRecDepth 100000

set_option maxHeartbeats 8000000 in
theorem source_any (s : ByteArray) (hL : s.data.toList.length ≤ 20000) (k : Int) (a b : Nat) (hab : a < b) (hb : b ≤ (treeX s.data.toList).T.length) (h7 : ∀ t, a ≤ t → t < b → (treeX s.data.toList).kind t ≠ 7) (so : Option Addr) (sn sc : Nat) (w : World) (hm : MaxOk w) :
    Calls Try.prog 14 #[.string s, .agg #[.int .i64 k, .int .i64 a, .int .i64 b, .slice so sn sc]] w
      (fun e w' => e = .returned (.string (s.extract (subFrom (treeX s.data.toList) a) (subTo (treeX s.data.toList) b))) ∧ Below w.heap.size w w') := by
  have hlen : s.data.toList.length = s.size := Array.length_toList
  obtain ⟨st1, st2, -⟩ := sub_text s.data.toList 30000 a b hab hb h7
  have hTT : (treeX s.data.toList).T = toks s.data.toList := rfl
  have hbx : (w.alloc (.cells #[.int .i64 k, .int .i64 a, .int .i64 b, .slice so sn sc] 34)).heap[w.heap.size]? = _ := heap_alloc_last w _
  have hbl : Below w.heap.size w (w.alloc (.cells #[.int .i64 k, .int .i64 a, .int .i64 b, .slice so sn sc] 34)) := (Below.refl w.heap.size w).alloc (Nat.le_refl _) _
  have HC := Lib.hid (cut_any s (w.alloc (.cells #[.int .i64 k, .int .i64 a, .int .i64 b, .slice so sn sc] 34)) (hm.keep hbl))
  have hga : (toks s.data.toList)[a]? = some ((toks s.data.toList)[a]'(by rw [← hTT]; omega)) := List.getElem?_eq_getElem _
  have hgb : (toks s.data.toList)[b - 1]? = some ((toks s.data.toList)[b - 1]'(by rw [← hTT]; omega)) := List.getElem?_eq_getElem _
  have hta := tokCells_get (toks s.data.toList) a (by rw [← hTT]; omega)
  have htb := tokCells_get (toks s.data.toList) (b - 1) (by rw [← hTT]; omega)
  have hpa : subFrom (treeX s.data.toList) a = ((toks s.data.toList)[a]'(by rw [← hTT]; omega)).2.1 := by
    have h : (treeX s.data.toList).T[a]? = _ := hga
    unfold subFrom TS.pos
    rw [h]
  have hpb : subTo (treeX s.data.toList) b = ((toks s.data.toList)[b - 1]'(by rw [← hTT]; omega)).2.2 := by
    have h : (treeX s.data.toList).T[b - 1]? = _ := hgb
    unfold subTo
    rw [h]
  rw [← hpa] at hta
  rw [← hpb] at htb
  obtain ⟨p, hp⟩ : ∃ p, subFrom (treeX s.data.toList) a = p := ⟨_, rfl⟩
  obtain ⟨e', he'⟩ : ∃ e', subTo (treeX s.data.toList) b = e' := ⟨_, rfl⟩
  change subFrom (treeX s.data.toList) a ≤ subTo (treeX s.data.toList) b at st1
  change subTo (treeX s.data.toList) b ≤ _ at st2
  rw [hp] at hta st1 ⊢
  rw [he'] at htb st1 st2 ⊢
  have HTA := Lib.hid hta.2.1
  have HTB := Lib.hid htb.2.2
  obtain ⟨n, hn⟩ : ∃ n, (toks s.data.toList).length = n := ⟨_, rfl⟩
  rw [hTT, hn] at hb
  have hn2 : n ≤ 20000 := by rw [← hn]; exact Nat.le_trans (toks_len _) hL
  rw [hlen] at st2
  have HN := Lib.hid hn
  have HL := Lib.hid hL
  have HBX := Lib.hid hbx
  have HBL := Lib.hid hbl
  clear hbx hbl hga hgb hta htb hpa hpb hp he' hn hTT hm h7 hlen hL
  go_enter Try.func14, Try.ntmps14
  go_wp2_with fail
  refine HC.out.mono ?_
  rintro e w1 (⟨-, vo, vc, rfl, hown, hbel⟩ | ⟨h1, -⟩)
  rotate_left
  · exact absurd HL.out (by omega)
  clear HC
  have hbx1 := (hbel.block _ (Array.getElem?_eq_some_iff.1 HBX.out).1).trans HBX.out
  have HB1 := Lib.hid (HBL.out.trans (hbel.mono HBL.out.size))
  obtain ⟨n0, n1, n2, n3, -⟩ := node_cells hbx1
  have htk : TokAt w1 vo (toks s.data.toList) := TokAt.of_own (g := 0) hown rfl
  rw [HN.out]
  obtain ⟨tb, rfl, hc⟩ : ∃ tb, vo = some ⟨tb, 0, none⟩ ∧ ∀ k v, (tokCells (toks s.data.toList))[k]? = some v → w1.cell? ⟨tb, k, none⟩ = some v := by
    rcases htk with h | ⟨b, h1, -, h3⟩
    · exfalso
      have h2 := HN.out
      rw [h] at h2
      simp at h2
      omega
    · exact ⟨b, h1, h3⟩
  have ca := hc _ _ HTA.out
  have cb := hc _ _ HTB.out
  clear hc htk hown hbx1 hbel HBX HBL HTA HTB n0 n3
  have i1 : (0 : Int) ≤ (a : Int) := by omega
  have i2 : (a : Int) < (n : Int) := by omega
  have i3 : (0 : Int) ≤ (b : Int) - 1 := by omega
  have i4 : (b : Int) - 1 < (n : Int) := by omega
  have i5 : ((b : Int) - 1).toNat = b - 1 := by omega
  have i6 : IntKind.i64.wrap ((b : Int) - 1) = (b : Int) - 1 := IntWalk.i64_in _ (by omega)
  have t1 : decide ((a : Int) < 0) = false := decide_eq_false (by omega)
  have t2 : decide ((b : Int) ≤ (a : Int)) = false := decide_eq_false (by omega)
  have t2n : decide (b ≤ a) = false := decide_eq_false (by omega)
  have t3 : decide ((n : Int) < (b : Int)) = false := decide_eq_false (by omega)
  have t3n : decide (n < b) = false := decide_eq_false (by omega)
  have s1 : (0 : Int) ≤ (p : Int) := by omega
  have s2 : (p : Int) ≤ (e' : Int) := by omega
  have s3 : (e' : Int) ≤ (s.size : Int) := by omega
  go_wp2_with fail
  go_quiet (fail)
  go_wp2_with fail
  try go_ret
  exact ⟨rfl, HB1.out.trans (Gx.drewN_below _ _ _)⟩
end Go.Proofs.Ytfjeikijmconoaa
