/-
  The walk of typecasekeep.TokAlone. Condition: a variable of the library's holds some integer.
-/
import Derived.Test.YtfjeikijmconoaaTokTile
import Derived.Test.YtfjeikijmconoaaTokLaw
namespace Go.Proofs.Ytfjeikijmconoaa
open Go.RowKit Gx

theorem toks_len (l : List UInt8) : (toks l).length ≤ l.length := toksF_len _ _ _

/-- every token lies where it says -/
theorem tok_place (l : List UInt8) (k : Nat) (hk : k < (toks l).length) : ∃ at_, toks l = (toks l).take k ++ toksFrom l at_ := by
  induction k with
  | zero => exact ⟨0, rfl⟩
  | succ k ih =>
    obtain ⟨a, ha⟩ := ih (by omega)
    obtain ⟨_, _, h⟩ := tok_at l k a ha (by omega)
    exact ⟨_, h⟩

set_option maxHeartbeats 4000000 in
theorem tokAlone_in (s : ByteArray) (k : Nat) (w : World) (hm : MaxOk w) (hs : s.size ≤ 20000) (hk : k < (toks s.data.toList).length) :
    Calls Try.prog 4 #[.string s, .int .i64 k] w (TruePost w) := by
  have hlen : s.data.toList.length = s.size := Array.length_toList
  have HLEN := Lib.hid hlen
  have HM := Lib.hid hm
  have hnl := toks_len s.data.toList
  obtain ⟨a, ha⟩ := tok_place _ k hk
  obtain ⟨hat, hgk, -⟩ := tok_at _ k a ha hk
  have hcells := tokCells_get (toks s.data.toList) k hk
  rw [hgk] at hcells
  have hfit := nextTok_fits (s.data.toList.drop a) (by rw [List.length_drop]; omega)
  have hal := toks_alone s.data.toList a hat
  rw [List.length_drop, hlen] at hfit
  rw [hlen] at hat hnl
  obtain ⟨K, hK⟩ : ∃ K, K = (nextTok (s.data.toList.drop a)).1 := ⟨_, rfl⟩
  obtain ⟨m, hM⟩ : ∃ m, m = (nextTok (s.data.toList.drop a)).2 := ⟨_, rfl⟩
  rw [← hK, ← hM] at hcells hal
  rw [← hM] at hfit
  have HCELLS := Lib.hid hcells
  have HAL := Lib.hid hal
  obtain ⟨hf1, hf2⟩ := hfit
  obtain ⟨n, hn⟩ : ∃ n, n = (toks s.data.toList).length := ⟨_, rfl⟩
  rw [← hn] at hk hnl
  have HN := Lib.hid hn
  clear hlen hm ha hgk hcells hal hK hM hn
  have d0 : decide ((k : Int) < 0) = false := decide_eq_false (by omega)
  have d1 : decide ((n : Int) ≤ (k : Int)) = false := decide_eq_false (by omega)
  have d2 : decide (n ≤ k) = false := decide_eq_false (by omega)
  go_enter Try.func4, Try.ntmps4
  go_wp2_with fail
  refine (toks_any w HM.out).mono ?_
  rintro e w1 ⟨rfl, hb⟩
  have HB := Lib.hid hb
  clear hb
  go_wp2_with fail
  refine (cut_any s w1 (HM.out.keep HB.out)).mono ?_
  rintro e w2 (⟨-, vo, vc, rfl, hown, hb⟩ | ⟨h, -⟩)
  rotate_left
  · exfalso; rw [HLEN.out] at h; omega
  have HB2 := Lib.hid (HB.out.trans (hb.mono HB.out.size))
  rw [← HN.out] at hown ⊢
  clear hb HB
  obtain ⟨g, gc, he, hg, hg2⟩ : ∃ g gc, Value.slice vo n vc = .slice (some ⟨g, 0, none⟩) n gc ∧ w1.heap.size ≤ g ∧ g < w2.heap.size := by
    rcases hown.2 with ⟨h1, h2⟩ | ⟨g, cap, cur, h1, h2, h3, _⟩
    · omega
    · exact ⟨g, cap, h1, h2, (Array.getElem?_eq_some_iff.1 h3).1⟩
  obtain ⟨rfl, rfl⟩ : vo = some ⟨g, 0, none⟩ ∧ vc = gc := by simpa using he
  have hc0 : w2.cell? ⟨g, k * 3, none⟩ = some (.int .i64 K) := by rw [hown.cellAt _ (by omega)]; exact HCELLS.out.1
  have hc1 : w2.cell? ⟨g, k * 3 + 1, none⟩ = some (.int .i64 a) := by rw [hown.cellAt _ (by omega)]; exact HCELLS.out.2.1
  have hc2 : w2.cell? ⟨g, k * 3 + 2, none⟩ = some (.int .i64 ((a : Int) + m)) := by
    rw [hown.cellAt _ (by omega)]
    have := HCELLS.out.2.2
    rw [show ((a + m : Nat) : Int) = (a : Int) + m by omega] at this
    exact this
  clear he hown
  have t0 : decide ((a : Int) < 0) = false := decide_eq_false (by omega)
  have t1 : decide ((a : Int) + m < (a : Int)) = false := decide_eq_false (by omega)
  have t2 : decide ((s.size : Int) < (a : Int) + m) = false := decide_eq_false (by omega)
  go_wp2_with fail
  have hex : (s.extract a (a + m)).data.toList = (s.data.toList.drop a).take m := by
    rw [Lib.extract_data, Nat.add_sub_cancel_left]
  have hmw : MaxOk (w2.alloc (.cells #[.int .i64 K, .int .i64 a, .int .i64 ((a : Int) + m)] 28)) :=
    (HM.out.keep HB2.out).keep ((Below.refl _ _).alloc (Nat.le_refl _) _)
  have HC := Lib.hid (cut_any (s.extract a (a + m)) _ hmw)
  unfold CutPost at HC
  rw [hex, HAL.out] at HC
  have HB3 : Hid (Below w.heap.size w (w2.alloc (.cells #[.int .i64 K, .int .i64 a, .int .i64 ((a : Int) + m)] 28))) := HB2.out.alloc HB2.out.size _
  have e0 : (w2.alloc (.cells #[.int .i64 K, .int .i64 a, .int .i64 ((a : Int) + m)] 28)).cell? ⟨w2.heap.size, 0, none⟩ = some (.int .i64 K) := by rw [World.cell?_alloc_mark]; rfl
  have e1 : (w2.alloc (.cells #[.int .i64 K, .int .i64 a, .int .i64 ((a : Int) + m)] 28)).cell? ⟨w2.heap.size, 1, none⟩ = some (.int .i64 a) := by rw [World.cell?_alloc_mark]; rfl
  have e2 : (w2.alloc (.cells #[.int .i64 K, .int .i64 a, .int .i64 ((a : Int) + m)] 28)).cell? ⟨w2.heap.size, 2, none⟩ = some (.int .i64 ((a : Int) + m)) := by rw [World.cell?_alloc_mark]; rfl
  have hws : w2.heap.size < (w2.alloc (.cells #[.int .i64 K, .int .i64 a, .int .i64 ((a : Int) + m)] 28)).heap.size := by simp
  have hml : ((s.data.toList.drop a).take m).length ≤ 20000 := by
    rw [List.length_take]; omega
  clear hc0 hc1 hc2 hmw hex
  obtain ⟨tb, htb⟩ : ∃ tb, tb = w2.heap.size := ⟨_, rfl⟩
  rw [← htb] at e0 e1 e2 hws
  refine HC.out.mono ?_
  rintro e w5 (⟨-, vo, vc2, rfl, hown, hb⟩ | ⟨h, -⟩)
  rotate_left
  · exfalso; omega
  have f0 := (hb.cell (p := ⟨tb, 0, none⟩) hws).trans e0
  have f1 := (hb.cell (p := ⟨tb, 1, none⟩) hws).trans e1
  have f2 := (hb.cell (p := ⟨tb, 2, none⟩) hws).trans e2
  have HB5 := Lib.hid (HB3.out.trans (hb.mono HB3.out.size))
  have hlen1 : ([(K, 0, m)] : List Tok).length = 1 := rfl
  rw [hlen1] at hown ⊢
  obtain ⟨g2, gc2, he⟩ : ∃ g gc, Value.slice vo 1 vc2 = .slice (some ⟨g, 0, none⟩) 1 gc := by
    rcases hown.2 with ⟨h1, h2⟩ | ⟨g, cap, cur, h1, h2, h3, _⟩
    · omega
    · exact ⟨g, cap, h1⟩
  obtain ⟨rfl, rfl⟩ : vo = some ⟨g2, 0, none⟩ ∧ vc2 = gc2 := by simpa using he
  have g0 : w5.cell? ⟨g2, 0, none⟩ = some (.int .i64 K) := by rw [hown.cellAt 0 (by omega)]; rfl
  have g1 : w5.cell? ⟨g2, 1, none⟩ = some (.int .i64 0) := by rw [hown.cellAt 1 (by omega)]; rfl
  have g3 : w5.cell? ⟨g2, 2, none⟩ = some (.int .i64 m) := by rw [hown.cellAt 2 (by omega)]; rfl
  rw [← htb]
  clear he hown hb e0 e1 e2 hws htb hlen1 HC HB3 HB2 HAL HCELLS
  have i1 : IntKind.i64.wrap ((a : Int) + m - a) = (m : Int) := by rw [IntKind.wrap_i64]; omega
  have i2 : (a : Int) + m - a = (m : Int) := by omega
  go_wp2
  go_quiet (fail)
  go_wp2
  go_ret
  exact ⟨rfl, HB5.out.trans (Gx.drewN_below _ _ _)⟩

set_option maxHeartbeats 4000000 in
theorem tokAlone_out (s : ByteArray) (i : Int) (w : World) (hm : MaxOk w) (hi : s.size ≤ 20000 → i < 0 ∨ ((toks s.data.toList).length : Int) ≤ i) :
    Calls Try.prog 4 #[.string s, .int .i64 i] w (TruePost w) := by
  have hlen : s.data.toList.length = s.size := Array.length_toList
  have HLEN := Lib.hid hlen
  have HM := Lib.hid hm
  have HI := Lib.hid hi
  obtain ⟨n, hn⟩ : ∃ n, n = (toks s.data.toList).length := ⟨_, rfl⟩
  have HN := Lib.hid hn
  clear hlen hm hi hn
  go_enter Try.func4, Try.ntmps4
  go_wp2_with fail
  refine (toks_any w HM.out).mono ?_
  rintro e w1 ⟨rfl, hb⟩
  have HB := Lib.hid hb
  clear hb
  go_wp2_with fail
  refine (cut_any s w1 (HM.out.keep HB.out)).mono ?_
  rintro e w2 (⟨hL, vo, vc, rfl, -, hb⟩ | ⟨-, rfl, rfl⟩)
  · have h := HI.out (by rw [← HLEN.out]; exact hL)
    rw [← HN.out] at h ⊢
    have HB2 := Lib.hid (HB.out.trans (hb.mono HB.out.size))
    clear hb hL HB
    by_cases h0 : i < 0
    · have d0 : decide (i < 0) = true := decide_eq_true h0
      clear h h0
      go_wp2
      go_ret
      exact ⟨rfl, HB2.out⟩
    · have d0 : decide (i < 0) = false := decide_eq_false h0
      have d1 : decide ((n : Int) ≤ i) = true := decide_eq_true (by omega)
      clear h h0
      go_wp2
      go_ret
      exact ⟨rfl, HB2.out⟩
  · go_wp2
    go_ret
    exact ⟨rfl, HB.out⟩

theorem tokAlone_walk (s : ByteArray) (i : Int) (w : World) (hm : MaxOk w) :
    Calls Try.prog 4 #[.string s, .int .i64 i] w (TruePost w) := by
  by_cases h : s.size ≤ 20000 ∧ 0 ≤ i ∧ i < ((toks s.data.toList).length : Int)
  · obtain ⟨k, rfl⟩ : ∃ k : Nat, i = (k : Int) := ⟨i.toNat, by omega⟩
    exact tokAlone_in s k w hm h.1 (by omega)
  · exact tokAlone_out s i w hm (by intro hs; omega)
end Go.Proofs.Ytfjeikijmconoaa
