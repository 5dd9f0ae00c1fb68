/-
  The walk of TreeFirst. Condition: a variable of the library's holds some integer.
-/
import Derived.Test.YtfjeikijmconoaaTreeTold
namespace Go.Proofs.Ytfjeikijmconoaa
open Go.RowKit Gx
set_option maxRecDepth 100000

theorem take_str (s : ByteArray) (k : Nat) : (s.extract 0 k).data.toList = s.data.toList.take k := by
  rw [Lib.extract_data]
  simp
set_option maxHeartbeats 8000000 in
theorem treeFirst_walk (s : ByteArray) (w : World) (hm : MaxOk w) : Calls Try.prog 6 #[.string s] w (TruePost w) := by
  have hlen : s.data.toList.length = s.size := Array.length_toList
  have HT := Lib.hid (trees_any w hm)
  have HC : Hid (∀ wz, Below w.heap.size w wz → Calls Try.prog 13 #[.string s] wz (ParsePost s.data.toList wz)) := Lib.hid (fun wz hz => parse_any s wz (hm.keep hz))
  have hfl := first_law s.data.toList
  have HM := Lib.hid hm
  clear hm
  by_cases hL : 20000 < s.size
  · have HL : Hid (20000 < s.data.toList.length) := Lib.hid (by omega)
    have hn : decide ((s.size : Int) < (0 : Int)) = false := decide_eq_false (by omega)
    clear hlen hfl hL
    go_enter Try.func6, Try.ntmps6
    go_wp2_with fail
    refine HT.out.mono ?_
    rintro e w1 ⟨rfl, hb1⟩
    have HB1 := Lib.hid hb1
    clear hb1
    go_wp2_with fail
    refine (HC.out _ HB1.out).mono ?_
    rintro e w2 ⟨hb2, ⟨-, rfl⟩ | ⟨h1, -⟩ | ⟨h1, -⟩⟩
    rotate_left
    · exact absurd HL.out (by omega)
    · exact absurd HL.out (by omega)
    have HB2 := Lib.hid (HB1.out.trans (hb2.mono HB1.out.size))
    clear hb2 HC HT
    go_wp2_with fail
    try go_ret
    exact ⟨rfl, HB2.out.alloc HB2.out.size _⟩
  · have HL : Hid (s.data.toList.length ≤ 20000) := Lib.hid (by omega)
    by_cases hbd : (parseS (treeX s.data.toList)).bad = 0
    · have HBD := Lib.hid hbd
      clear hlen hfl hL hbd
      go_enter Try.func6, Try.ntmps6
      go_wp2_with fail
      refine HT.out.mono ?_
      rintro e w1 ⟨rfl, hb1⟩
      have HB1 := Lib.hid hb1
      clear hb1
      go_wp2_with fail
      refine (HC.out _ HB1.out).mono ?_
      rintro e w2 ⟨hb2, ⟨h1, -⟩ | ⟨-, h1, -⟩ | ⟨-, -, g, rfl, -⟩⟩
      · exact absurd HL.out (by omega)
      · exact absurd HBD.out h1
      have HB2 := Lib.hid (HB1.out.trans (hb2.mono HB1.out.size))
      clear hb2 HC HT
      go_wp2_with fail
      try go_ret
      exact ⟨rfl, HB2.out.alloc HB2.out.size _⟩
    · obtain ⟨hle, hcs⟩ := hfl hbd
      rw [hlen] at hle hcs
      clear hfl
      have HBD := Lib.hid hbd
      obtain ⟨k, hk⟩ : ∃ k, (parseS (treeX s.data.toList)).wh = k := ⟨_, rfl⟩
      rw [hk] at hle hcs
      have i1 : (0 : Int) ≤ (k : Int) := by omega
      have i2 : (k : Int) ≤ (s.size : Int) := by omega
      have t1 : decide ((k : Int) < (0 : Int)) = false := decide_eq_false (by omega)
      have t2 : decide ((s.size : Int) < (k : Int)) = false := decide_eq_false (by omega)
      have t2n : decide (s.size < k) = false := decide_eq_false (by omega)
      have HK := Lib.hid hk
      clear hk hbd hlen hL
      have HP : ∀ b : Int, (parseS (treeX s.data.toList)).bad = b → Hid (∀ wz, Below w.heap.size w wz → Calls Try.prog 13 #[.string s] wz fun e w' => Below wz.heap.size wz w' ∧ e = .returned (.tuple #[.agg #[.int .i64 0, .int .i64 0, .int .i64 0, .slice none 0 0], .int .i64 k, .int .i64 b])) := fun b hb => Lib.hid fun wz hz => (HC.out wz hz).mono (by
        rintro e w2 ⟨hb2, ⟨h1, -⟩ | ⟨-, -, rfl⟩ | ⟨-, h1, -⟩⟩
        · exact absurd HL.out (by omega)
        · exact ⟨hb2, by rw [HK.out, hb]⟩
        · exact absurd h1 HBD.out)
      clear HC
      rcases hcs with h5 | ⟨h4, hcs⟩
      · have HP5 := HP 5 h5
        clear HP h5
        go_enter Try.func6, Try.ntmps6
        go_wp2_with fail
        refine HT.out.mono ?_
        rintro e w1 ⟨rfl, hb1⟩
        have HB1 := Lib.hid hb1
        clear hb1
        go_wp2_with fail
        refine (HP5.out _ HB1.out).mono ?_
        rintro e w2 ⟨hb2, rfl⟩
        have HB2 := Lib.hid (HB1.out.trans (hb2.mono HB1.out.size))
        clear hb2 HT
        go_wp2_with fail
        try go_ret
        exact ⟨rfl, HB2.out.alloc HB2.out.size _⟩
      · have HP4 := HP 4 h4
        clear HP h4
        rcases hcs with he | ⟨hlt, hcs⟩
        · subst he
          go_enter Try.func6, Try.ntmps6
          go_wp2_with fail
          refine HT.out.mono ?_
          rintro e w1 ⟨rfl, hb1⟩
          have HB1 := Lib.hid hb1
          clear hb1
          go_wp2_with fail
          refine (HP4.out _ HB1.out).mono ?_
          rintro e w2 ⟨hb2, rfl⟩
          have HB2 := Lib.hid (HB1.out.trans (hb2.mono HB1.out.size))
          clear hb2 HT
          go_wp2_with fail
          try go_ret
          exact ⟨rfl, HB2.out.alloc HB2.out.size _⟩
        · have t3 : ((k : Int) == (s.size : Int)) = false := by
            have : ¬ (k : Int) = (s.size : Int) := by omega
            simpa using this
          have t3n : (k == s.size) = false := by simpa using (show ¬ k = s.size by omega)
          have HC2 : Hid (∀ wz, Below w.heap.size w wz → Calls Try.prog 13 #[.string (s.extract 0 k)] wz (ParsePost (s.data.toList.take k) wz)) := Lib.hid (fun wz hz => by rw [← take_str]; exact parse_any _ wz (HM.out.keep hz))
          have hl2 : (s.data.toList.take k).length ≤ 20000 := by rw [List.length_take]; have := HL.out; omega
          have HL2 := Lib.hid hl2
          clear hl2
          rcases hcs with h0 | ⟨h4, hw⟩
          · have HB0 := Lib.hid h0
            clear h0
            go_enter Try.func6, Try.ntmps6
            go_wp2_with fail
            refine HT.out.mono ?_
            rintro e w1 ⟨rfl, hb1⟩
            have HB1 := Lib.hid hb1
            clear hb1
            go_wp2_with fail
            refine (HP4.out _ HB1.out).mono ?_
            rintro e w2 ⟨hb2, rfl⟩
            have HB2 := Lib.hid (HB1.out.trans (hb2.mono HB1.out.size))
            clear hb2 HT
            go_wp2_with fail
            refine (HC2.out _ (HB2.out.alloc HB2.out.size _)).mono ?_
            rintro e w3 ⟨hb3, ⟨h1, -⟩ | ⟨-, h1, -⟩ | ⟨-, -, g, rfl, -⟩⟩
            · exact absurd HL2.out (by omega)
            · exact absurd HB0.out h1
            have HB3 := Lib.hid ((HB2.out.alloc HB2.out.size _).trans (hb3.mono (HB2.out.alloc HB2.out.size _).size))
            clear hb3 HC2
            go_wp2_with fail
            try go_ret
            exact ⟨rfl, HB3.out.alloc HB3.out.size _⟩
          · have HB0 := Lib.hid h4
            have HW := Lib.hid hw
            have HC3 : Hid (∀ wz, Below w.heap.size w wz → Calls Try.prog 13 #[.string (s.extract 0 k)] wz fun e w' => Below wz.heap.size wz w' ∧ e = .returned (.tuple #[.agg #[.int .i64 0, .int .i64 0, .int .i64 0, .slice none 0 0], .int .i64 k, .int .i64 4])) := Lib.hid fun wz hz => (HC2.out wz hz).mono (by
              rintro e w2 ⟨hb2, ⟨h1, -⟩ | ⟨-, -, rfl⟩ | ⟨-, h1, -⟩⟩
              · exact absurd HL2.out (by omega)
              · exact ⟨hb2, by rw [HW.out, HB0.out]⟩
              · exact absurd h1 (by rw [HB0.out]; decide))
            clear h4 hw HC2
            go_enter Try.func6, Try.ntmps6
            go_wp2_with fail
            refine HT.out.mono ?_
            rintro e w1 ⟨rfl, hb1⟩
            have HB1 := Lib.hid hb1
            clear hb1
            go_wp2_with fail
            refine (HP4.out _ HB1.out).mono ?_
            rintro e w2 ⟨hb2, rfl⟩
            have HB2 := Lib.hid (HB1.out.trans (hb2.mono HB1.out.size))
            clear hb2 HT
            go_wp2_with fail
            refine (HC3.out _ (HB2.out.alloc HB2.out.size _)).mono ?_
            rintro e w3 ⟨hb3, rfl⟩
            have HB3 := Lib.hid ((HB2.out.alloc HB2.out.size _).trans (hb3.mono (HB2.out.alloc HB2.out.size _).size))
            clear hb3 HC3
            go_wp2_with fail
            try go_ret
            exact ⟨rfl, HB3.out.alloc HB3.out.size _⟩
end Go.Proofs.Ytfjeikijmconoaa
