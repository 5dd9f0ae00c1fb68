/-
  The walk of TreeCovers. Condition: a variable of the library's holds some integer.
-/
import Derived.Test.YtfjeikijmconoaaCovers
import Derived.Test.YtfjeikijmconoaaTreeTold
namespace Go.Proofs.Ytfjeikijmconoaa
open Go.RowKit Gx
set_option maxRecDepth 100000

theorem doc_pos (X : TS) (hb : (parseS X).bad = 0) : 0 < X.T.length := by
  unfold parseS endS at hb
  split at hb
  · exact (fail_not (by decide) hb).elim
  · have V := value_cov X 20 ⟨0, 0, 0⟩ hb (Nat.zero_le _)
    have := V.ab
    have := V.b
    have := V.le
    omega
set_option maxHeartbeats 8000000 in
theorem treeCovers_walk (s : ByteArray) (w : World) (hm : MaxOk w) : Calls Try.prog 8 #[.string s] w (TruePost w) := by
  have HT := Lib.hid (trees_any w hm)
  have HC : Hid (∀ wz, Below w.heap.size w wz → Calls Try.prog 13 #[.string s] wz (ParsePost s.data.toList wz)) := Lib.hid (fun wz hz => parse_any s wz (hm.keep hz))
  have HM := Lib.hid hm
  clear hm
  by_cases hL : 20000 < s.data.toList.length
  · have HL := Lib.hid hL
    clear hL
    go_enter Try.func8, Try.ntmps8
    go_wp2_with fail
    refine HT.out.mono ?_
    rintro e w1 ⟨rfl, hb1⟩
    have HB1 := Lib.hid hb1
    clear hb1
    go_wp2_with fail
    refine (HC.out _ HB1.out).mono ?_
    rintro e w2 ⟨hb2, ⟨-, rfl⟩ | ⟨h1, -⟩ | ⟨h1, -⟩⟩
    rotate_left
    · exact absurd HL.out (by omega)
    · exact absurd HL.out (by omega)
    have HB2 := Lib.hid (HB1.out.trans (hb2.mono HB1.out.size))
    clear hb2 HC HT
    go_wp2_with fail
    try go_ret
    exact ⟨rfl, HB2.out.alloc HB2.out.size _⟩
  · have HL : Hid (s.data.toList.length ≤ 20000) := Lib.hid (by omega)
    clear hL
    by_cases hbd : (parseS (treeX s.data.toList)).bad = 0
    · have hcov := doc_covers (treeX s.data.toList) hbd
      have hpos := doc_pos (treeX s.data.toList) hbd
      have HTT : Hid ((treeX s.data.toList).T = toks s.data.toList) := Lib.hid rfl
      have hTl : (treeX s.data.toList).T.length ≤ 20000 := Nat.le_trans (toks_len _) HL.out
      have HCC := Lib.hid (fun wz (hz : Below w.heap.size w wz) => cut_any s wz (HM.out.keep hz))
      have HBD := Lib.hid hbd
      have HCOV := Lib.hid hcov
      obtain ⟨n, hn⟩ : ∃ n, (treeX s.data.toList).T.length = n := ⟨_, rfl⟩
      have HN := Lib.hid hn
      rw [hn] at hpos hTl
      clear hbd hcov hn
      have tn : ((n : Int) == (n : Int)) = true := by simp
      go_enter Try.func8, Try.ntmps8
      go_wp2_with fail
      refine HT.out.mono ?_
      rintro e w1 ⟨rfl, hb1⟩
      have HB1 := Lib.hid hb1
      clear hb1
      go_wp2_with fail
      refine (HC.out _ HB1.out).mono ?_
      rintro e w2 ⟨hb2, ⟨h1, -⟩ | ⟨-, h1, -⟩ | ⟨-, -, g, rfl, hk2⟩⟩
      · exact absurd HL.out (by omega)
      · exact absurd HBD.out h1
      have HB2 := Lib.hid (HB1.out.trans (hb2.mono HB1.out.size))
      have HK2 := Lib.hid hk2
      clear hb2 HC HT hk2
      rw [HN.out]
      go_wp2_with fail
      have HB3 := Lib.hid (HB2.out.alloc HB2.out.size (.cells #[.int .i64 6, .int .i64 0, .int .i64 n, .slice (some ⟨g, 0, none⟩) 1 1] 34))
      have hbx : (w2.alloc (.cells #[.int .i64 6, .int .i64 0, .int .i64 n, .slice (some ⟨g, 0, none⟩) 1 1] 34)).heap[w2.heap.size]? = _ := heap_alloc_last w2 _
      have HBX := Lib.hid hbx
      have hk3 := HK2.out.grow (grown_alloc w2 (.cells #[.int .i64 6, .int .i64 0, .int .i64 n, .slice (some ⟨g, 0, none⟩) 1 1] 34) none) (fun b e => by simp at e)
      have HK3 := Lib.hid (hk3.weak (C := fun b => b < w2.heap.size + 1) (fun b _ hlt => by rw [World.size_alloc] at hlt; exact hlt))
      clear hbx hk3 HK2
      have hz3 : (w2.alloc (.cells #[.int .i64 6, .int .i64 0, .int .i64 n, .slice (some ⟨g, 0, none⟩) 1 1] 34)).heap.size = w2.heap.size + 1 := World.size_alloc _ _
      have HZ3 := Lib.hid hz3
      clear hz3
      generalize w2.alloc (.cells #[.int .i64 6, .int .i64 0, .int .i64 n, .slice (some ⟨g, 0, none⟩) 1 1] 34) = w3 at HB3 HBX HK3 HZ3 ⊢
      refine (HCC.out w3 HB3.out).mono ?_
      rintro e w4 (⟨-, vo, vc, rfl, hown, hbel⟩ | ⟨h1, -⟩)
      rotate_left
      · exact absurd HL.out (by omega)
      clear HCC
      rw [← HTT.out] at hown ⊢
      rw [HN.out] at hown ⊢
      have hbx4 := (hbel.block _ (by rw [HZ3.out]; exact Nat.lt_succ_self _)).trans HBX.out
      obtain ⟨n0, n1, n2, n3, -⟩ := node_cells hbx4
      have HB4 := Lib.hid (HB3.out.trans (hbel.mono HB3.out.size))
      have htk : TokAt w4 vo (treeX s.data.toList).T := TokAt.of_own (g := 0) (by rw [← HN.out] at hown; exact hown) rfl
      have hk4 := ((HK3.out.grow (row := some w3.heap.size) ⟨hbel.os, hbel.tape, hbel.output, hbel.size, fun k hk _ => hbel.block k hk⟩ (fun b e hb2 => by have := Option.some.inj e; have := HZ3.out; omega)).weak (C := fun _ => True) (fun _ _ _ => trivial))
      have hcap : n ≤ vc := by
        rcases hown.2 with ⟨h, h0⟩ | ⟨g, cap, cur, h, hb, hg, hnc, -⟩
        · omega
        · obtain ⟨-, -, rfl⟩ : vo = _ ∧ n = n ∧ vc = cap := by simpa using h
          exact hnc
      obtain ⟨tb, rfl⟩ : ∃ tb, vo = some ⟨tb, 0, none⟩ := by
        rcases htk with h | ⟨b, h1, -⟩
        · exfalso
          have h2 := HN.out
          rw [h] at h2
          simp at h2
          omega
        · exact ⟨b, h1⟩
      have HCV := Lib.hid (covers_any s (treeX s.data.toList) tb vc (by rw [HN.out]; exact hTl) (by rw [HN.out]; exact hcap) _ HCOV.out w4 _ htk (by rw [HN.out]; exact hpos) hk4)
      have HCV2 : Hid (Calls Try.prog 16 #[.string s, .slice (some ⟨tb, 0, none⟩) n vc, .agg #[.int .i64 6, .int .i64 0, .int .i64 n, .slice (some ⟨g, 0, none⟩) 1 1]] w4 (TruePost w4)) := Lib.hid (by
        have := HCV.out
        rw [HN.out] at this
        exact this)
      clear HCV htk hk4 hown hbx4 hbel HBX HK3 HZ3 hcap HTT
      go_wp2_with fail
      refine HCV2.out.mono ?_
      rintro e w5 ⟨rfl, hb5⟩
      have HB5 := Lib.hid (HB4.out.trans (hb5.mono HB4.out.size))
      clear hb5
      go_wp2_with fail
      try go_ret
      exact ⟨rfl, HB5.out⟩
    · have hb5 : (parseS (treeX s.data.toList)).bad = 4 ∨ (parseS (treeX s.data.toList)).bad = 5 := by
        rcases parse_told (treeX s.data.toList) with h | ⟨h45, -⟩
        · exact absurd h hbd
        · exact h45
      have HBD := Lib.hid hbd
      obtain ⟨E, hE⟩ : ∃ E, (parseS (treeX s.data.toList)).bad = E := ⟨_, rfl⟩
      obtain ⟨k, hk⟩ : ∃ k, (parseS (treeX s.data.toList)).wh = k := ⟨_, rfl⟩
      rw [hE] at hb5
      have tE : (E != 0) = true := by rcases hb5 with rfl | rfl <;> rfl
      have HE := Lib.hid hE
      have HK := Lib.hid hk
      clear hbd hb5 hE hk
      go_enter Try.func8, Try.ntmps8
      go_wp2_with fail
      refine HT.out.mono ?_
      rintro e w1 ⟨rfl, hb1⟩
      have HB1 := Lib.hid hb1
      clear hb1
      go_wp2_with fail
      refine (HC.out _ HB1.out).mono ?_
      rintro e w2 ⟨hb2, ⟨h1, -⟩ | ⟨-, -, rfl⟩ | ⟨-, h1, -⟩⟩
      · exact absurd HL.out (by omega)
      rotate_left
      · exact absurd h1 HBD.out
      rw [HE.out, HK.out]
      have HB2 := Lib.hid (HB1.out.trans (hb2.mono HB1.out.size))
      clear hb2 HC HT
      go_wp2_with fail
      try go_ret
      exact ⟨rfl, HB2.out.alloc HB2.out.size _⟩
end Go.Proofs.Ytfjeikijmconoaa
