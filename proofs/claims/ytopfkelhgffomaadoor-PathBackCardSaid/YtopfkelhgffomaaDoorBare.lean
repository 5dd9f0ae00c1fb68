/-
  The contracts of esc.Bare and esc.Key. Conditions: the library's tables lie in the world; the text has at most 10^8 bytes.
-/
import Derived.Test.YtopfkelhgffomaaDoorQuote
import Derived.Test.YtopfkelhgffomaaDoorBareLaw
namespace Go.Proofs.YtopfkelhgffomaaDoor
open Go.RowKit Gx
set_option maxRecDepth 100000

def BoolB (b : Bool) (w : World) (e : Ending) (w' : World) : Prop := e = .returned (.bool b) ∧ Below w.heap.size w w'
set_option maxHeartbeats 16000000 in
theorem bare_any (s : ByteArray) (w : World) (hs : s.size ≤ 9223372036854775807) : Calls Tryd.prog 22 #[.string s] w (BoolB (bareOf s.data.toList) w) := by
  have hsl := Lib.size_eq s
  rcases Nat.eq_zero_or_pos s.size with zs | ps
  · obtain rfl := bytes_nil zs
    clear zs hsl
    go_enter Tryd.func22, Tryd.ntmps22
    go_wp2_with fail
    try go_ret
    exact ⟨rfl, Below.refl _ _⟩
  obtain ⟨em1, em2⟩ := bytes_em ps
  by_cases hbig : 100 < s.size
  · have e : bareOf s.data.toList = false := by
      unfold bareOf
      rw [decide_eq_false (show ¬ s.data.toList.length ≤ 100 by omega)]; simp
    have tb : decide ((100 : Int) < (s.size : Int)) = true := decide_eq_true (by omega)
    rw [e]
    clear e hsl hbig
    go_enter Tryd.func22, Tryd.ntmps22
    go_wp2_with fail
    try go_ret
    exact ⟨rfl, Below.refl _ _⟩
  have tb : decide ((100 : Int) < (s.size : Int)) = false := decide_eq_false (by omega)
  have hbo : bareOf s.data.toList = (bareFrom true s.data.toList && !wordB s.data.toList) := by
    unfold bareOf
    rw [decide_eq_true (list_ne ps), decide_eq_true (show s.data.toList.length ≤ 100 by omega)]; simp
  rw [hbo]
  obtain ⟨cap, w2, hconv, -, hsz2, hg, hC⟩ := Gx.conv_bytes_run (P := Tryd.prog) w 9 57 5 s Tryd.underlying9 Tryd.underlying57 Tryd.underlying5
  have hb2 : Below w.heap.size w w2 := Gx.grown_below hg (Nat.le_refl _) (by simp)
  have htl : s.toList = s.data.toList := Lib.toList_data s
  have HDR := Lib.hid (fun k h => drop_cons s k h)
  have HNO := Lib.hid (fun (h : bareFrom true s.data.toList = false) => (show BoolB (bareFrom true s.data.toList && !wordB s.data.toList) w (.returned (.bool false)) w2 from ⟨by rw [h]; rfl, hb2⟩))
  have HWD := Lib.hid (fun (h : bareFrom true s.data.toList = true) b (hw : wordB s.data.toList = !b) => (show BoolB (bareFrom true s.data.toList && !wordB s.data.toList) w (.returned (.bool b)) w2 from ⟨by rw [h, hw]; simp, hb2⟩))
  have hd0 : bareFrom (decide (0 = 0)) (s.data.toList.drop 0) = bareFrom true s.data.toList := by rw [List.drop_zero]; rfl
  generalize BoolB (bareFrom true s.data.toList && !wordB s.data.toList) w = POST at *
  have hword : wordB s.data.toList = ((s.toList == [110, 117, 108, 108]) || (s.toList == [116, 114, 117, 101]) || (s.toList == [102, 97, 108, 115, 101]) || (s.toList == [110, 97, 110]) || (s.toList == [105, 110, 102])) := by rw [htl]; rfl
  generalize wordB s.data.toList = WB at *
  generalize bareFrom true s.data.toList = BF at *
  have HD0 := Lib.hid hd0
  have HC := Lib.hid hC
  have HSL := Lib.hid hsl
  have HWB := Lib.hid hword
  have hend : ∀ (k : Nat) b, k = s.size → bareFrom b (s.data.toList.drop k) = true := by
    intro k b hk
    rw [List.drop_eq_nil_of_le (by omega)]; rfl
  have HEND := Lib.hid hend
  clear hbo htl hd0 hC hsl hword hend hg hsz2 hb2 hbig
  go_enter Tryd.func22, Tryd.ntmps22
  go_wp2_with fail
  clear hconv em1 em2
  go_loop [17] (fun iv => ∃ k : Nat, k ≤ s.size ∧ iv = .int .i64 k ∧ Hid (bareFrom (decide (k = 0)) (s.data.toList.drop k) = BF)) (fun iv => s.size - (intOf iv).toNat)
  case atStart => exact ⟨0, Nat.zero_le _, rfl, HD0.out⟩
  case round =>
    obtain ⟨k, hk, rfl, hq⟩ := hrel
    by_cases hlt : k < s.size
    · have c0 := HC.out k hlt
      have hst := hq.out
      rw [HDR.out k hlt, bareFrom] at hst
      have e1 : s.data[k] = s[k] := rfl
      rw [e1] at c0
      have hx256 := UInt8.toNat_lt s[k]
      obtain ⟨x, hx⟩ : ∃ x : Nat, x = s[k].toNat := ⟨_, rfl⟩
      rw [← hx] at c0 hst hx256
      have hz : Hid (bareFrom false (s.data.toList.drop (k + 1)) = bareFrom (decide (k + 1 = 0)) (s.data.toList.drop (k + 1))) := by
        show _ = _
        rw [decide_eq_false (by omega)]
      clear e1 hx hq
      have hcl : x < 45 ∨ x = 45 ∨ (46 ≤ x ∧ x ≤ 47) ∨ (48 ≤ x ∧ x ≤ 57) ∨ (58 ≤ x ∧ x ≤ 64) ∨ (65 ≤ x ∧ x ≤ 90) ∨ (91 ≤ x ∧ x ≤ 94) ∨ x = 95 ∨ x = 96 ∨ (97 ≤ x ∧ x ≤ 122) ∨ 123 ≤ x := by omega
      rcases hcl with hc | hc | hc | hc | hc | hc | hc | hc | hc | hc | hc
      · have t1 : decide ((97 : Int) ≤ (x : Int)) = false := decide_eq_false (by omega)
        have t3 : decide ((65 : Int) ≤ (x : Int)) = false := decide_eq_false (by omega)
        have t5 : ((x : Int) == 95) = false := by rw [beq_eq_false_iff_ne]; omega
        have t6 : decide ((48 : Int) ≤ (x : Int)) = false := decide_eq_false (by omega)
        have t8 : ((x : Int) == 45) = false := by rw [beq_eq_false_iff_ne]; omega
        have hlet : letterB x = false := by unfold letterB; simp; omega
        have hmor : moreB x = false := by unfold moreB; simp; omega
        rw [hlet, hmor] at hst
        clear hlet hmor hc
        have N := Lib.hid (HNO.out (by rw [← hst]; simp))
        clear hst hz
        go_wp2_with fail
        try go_ret
        exact N.out
      · have t1 : decide ((97 : Int) ≤ (x : Int)) = false := decide_eq_false (by omega)
        have t3 : decide ((65 : Int) ≤ (x : Int)) = false := decide_eq_false (by omega)
        have t5 : ((x : Int) == 95) = false := by rw [beq_eq_false_iff_ne]; omega
        have t6 : decide ((48 : Int) ≤ (x : Int)) = false := decide_eq_false (by omega)
        have t8 : ((x : Int) == 45) = true := by rw [beq_iff_eq]; omega
        have hlet : letterB x = false := by unfold letterB; simp; omega
        have hmor : moreB x = true := by unfold moreB; simp; omega
        rw [hlet, hmor] at hst
        clear hlet hmor hc
        by_cases hk0 : k = 0
        · subst hk0
          have N := Lib.hid (HNO.out (by rw [← hst]; rfl))
          clear hst hz
          go_wp2_with fail
          try go_ret
          exact N.out
        · have hn : Hid (bareFrom (decide (k + 1 = 0)) (s.data.toList.drop (k + 1)) = BF) := by
            show _ = _
            rw [← hz.out]
            rw [decide_eq_false hk0] at hst
            simpa using hst
          have tk : ((k : Int) == 0) = false := by rw [beq_eq_false_iff_ne]; omega
          have tk2 : decide ((k : Int) = 0) = false := decide_eq_false (by omega)
          clear hst hz
          go_wp2_with fail
          go_round
          case rel => exact ⟨k + 1, by omega, by go_num, hn.out⟩
          case measure => simp [intOf]; omega
      · have t1 : decide ((97 : Int) ≤ (x : Int)) = false := decide_eq_false (by omega)
        have t3 : decide ((65 : Int) ≤ (x : Int)) = false := decide_eq_false (by omega)
        have t5 : ((x : Int) == 95) = false := by rw [beq_eq_false_iff_ne]; omega
        have t6 : decide ((48 : Int) ≤ (x : Int)) = false := decide_eq_false (by omega)
        have t8 : ((x : Int) == 45) = false := by rw [beq_eq_false_iff_ne]; omega
        have hlet : letterB x = false := by unfold letterB; simp; omega
        have hmor : moreB x = false := by unfold moreB; simp; omega
        rw [hlet, hmor] at hst
        clear hlet hmor hc
        have N := Lib.hid (HNO.out (by rw [← hst]; simp))
        clear hst hz
        go_wp2_with fail
        try go_ret
        exact N.out
      · have t1 : decide ((97 : Int) ≤ (x : Int)) = false := decide_eq_false (by omega)
        have t3 : decide ((65 : Int) ≤ (x : Int)) = false := decide_eq_false (by omega)
        have t5 : ((x : Int) == 95) = false := by rw [beq_eq_false_iff_ne]; omega
        have t6 : decide ((48 : Int) ≤ (x : Int)) = true := decide_eq_true (by omega)
        have t7 : decide ((x : Int) ≤ 57) = true := decide_eq_true (by omega)
        have hlet : letterB x = false := by unfold letterB; simp; omega
        have hmor : moreB x = true := by unfold moreB; simp; omega
        rw [hlet, hmor] at hst
        clear hlet hmor hc
        by_cases hk0 : k = 0
        · subst hk0
          have N := Lib.hid (HNO.out (by rw [← hst]; rfl))
          clear hst hz
          go_wp2_with fail
          try go_ret
          exact N.out
        · have hn : Hid (bareFrom (decide (k + 1 = 0)) (s.data.toList.drop (k + 1)) = BF) := by
            show _ = _
            rw [← hz.out]
            rw [decide_eq_false hk0] at hst
            simpa using hst
          have tk : ((k : Int) == 0) = false := by rw [beq_eq_false_iff_ne]; omega
          have tk2 : decide ((k : Int) = 0) = false := decide_eq_false (by omega)
          clear hst hz
          go_wp2_with fail
          go_round
          case rel => exact ⟨k + 1, by omega, by go_num, hn.out⟩
          case measure => simp [intOf]; omega
      · have t1 : decide ((97 : Int) ≤ (x : Int)) = false := decide_eq_false (by omega)
        have t3 : decide ((65 : Int) ≤ (x : Int)) = false := decide_eq_false (by omega)
        have t5 : ((x : Int) == 95) = false := by rw [beq_eq_false_iff_ne]; omega
        have t6 : decide ((48 : Int) ≤ (x : Int)) = true := decide_eq_true (by omega)
        have t7 : decide ((x : Int) ≤ 57) = false := decide_eq_false (by omega)
        have t8 : ((x : Int) == 45) = false := by rw [beq_eq_false_iff_ne]; omega
        have hlet : letterB x = false := by unfold letterB; simp; omega
        have hmor : moreB x = false := by unfold moreB; simp; omega
        rw [hlet, hmor] at hst
        clear hlet hmor hc
        have N := Lib.hid (HNO.out (by rw [← hst]; simp))
        clear hst hz
        go_wp2_with fail
        try go_ret
        exact N.out
      · have t1 : decide ((97 : Int) ≤ (x : Int)) = false := decide_eq_false (by omega)
        have t3 : decide ((65 : Int) ≤ (x : Int)) = true := decide_eq_true (by omega)
        have t4 : decide ((x : Int) ≤ 90) = true := decide_eq_true (by omega)
        have t6 : decide ((48 : Int) ≤ (x : Int)) = true := decide_eq_true (by omega)
        have t7 : decide ((x : Int) ≤ 57) = false := decide_eq_false (by omega)
        have t8 : ((x : Int) == 45) = false := by rw [beq_eq_false_iff_ne]; omega
        have hlet : letterB x = true := by unfold letterB; simp; omega
        have hmor : moreB x = false := by unfold moreB; simp; omega
        rw [hlet, hmor] at hst
        clear hlet hmor hc
        have hn : Hid (bareFrom (decide (k + 1 = 0)) (s.data.toList.drop (k + 1)) = BF) := by
          show _ = _
          rw [← hz.out]; simpa using hst
        clear hst hz
        go_wp2_with fail
        go_round
        case rel => exact ⟨k + 1, by omega, by go_num, hn.out⟩
        case measure => simp [intOf]; omega
      · have t1 : decide ((97 : Int) ≤ (x : Int)) = false := decide_eq_false (by omega)
        have t3 : decide ((65 : Int) ≤ (x : Int)) = true := decide_eq_true (by omega)
        have t4 : decide ((x : Int) ≤ 90) = false := decide_eq_false (by omega)
        have t5 : ((x : Int) == 95) = false := by rw [beq_eq_false_iff_ne]; omega
        have t6 : decide ((48 : Int) ≤ (x : Int)) = true := decide_eq_true (by omega)
        have t7 : decide ((x : Int) ≤ 57) = false := decide_eq_false (by omega)
        have t8 : ((x : Int) == 45) = false := by rw [beq_eq_false_iff_ne]; omega
        have hlet : letterB x = false := by unfold letterB; simp; omega
        have hmor : moreB x = false := by unfold moreB; simp; omega
        rw [hlet, hmor] at hst
        clear hlet hmor hc
        have N := Lib.hid (HNO.out (by rw [← hst]; simp))
        clear hst hz
        go_wp2_with fail
        try go_ret
        exact N.out
      · have t1 : decide ((97 : Int) ≤ (x : Int)) = false := decide_eq_false (by omega)
        have t3 : decide ((65 : Int) ≤ (x : Int)) = true := decide_eq_true (by omega)
        have t4 : decide ((x : Int) ≤ 90) = false := decide_eq_false (by omega)
        have t5 : ((x : Int) == 95) = true := by rw [beq_iff_eq]; omega
        have t6 : decide ((48 : Int) ≤ (x : Int)) = true := decide_eq_true (by omega)
        have t7 : decide ((x : Int) ≤ 57) = false := decide_eq_false (by omega)
        have t8 : ((x : Int) == 45) = false := by rw [beq_eq_false_iff_ne]; omega
        have hlet : letterB x = true := by unfold letterB; simp; omega
        have hmor : moreB x = false := by unfold moreB; simp; omega
        rw [hlet, hmor] at hst
        clear hlet hmor hc
        have hn : Hid (bareFrom (decide (k + 1 = 0)) (s.data.toList.drop (k + 1)) = BF) := by
          show _ = _
          rw [← hz.out]; simpa using hst
        clear hst hz
        go_wp2_with fail
        go_round
        case rel => exact ⟨k + 1, by omega, by go_num, hn.out⟩
        case measure => simp [intOf]; omega
      · have t1 : decide ((97 : Int) ≤ (x : Int)) = false := decide_eq_false (by omega)
        have t3 : decide ((65 : Int) ≤ (x : Int)) = true := decide_eq_true (by omega)
        have t4 : decide ((x : Int) ≤ 90) = false := decide_eq_false (by omega)
        have t5 : ((x : Int) == 95) = false := by rw [beq_eq_false_iff_ne]; omega
        have t6 : decide ((48 : Int) ≤ (x : Int)) = true := decide_eq_true (by omega)
        have t7 : decide ((x : Int) ≤ 57) = false := decide_eq_false (by omega)
        have t8 : ((x : Int) == 45) = false := by rw [beq_eq_false_iff_ne]; omega
        have hlet : letterB x = false := by unfold letterB; simp; omega
        have hmor : moreB x = false := by unfold moreB; simp; omega
        rw [hlet, hmor] at hst
        clear hlet hmor hc
        have N := Lib.hid (HNO.out (by rw [← hst]; simp))
        clear hst hz
        go_wp2_with fail
        try go_ret
        exact N.out
      · have t1 : decide ((97 : Int) ≤ (x : Int)) = true := decide_eq_true (by omega)
        have t2 : decide ((x : Int) ≤ 122) = true := decide_eq_true (by omega)
        have t6 : decide ((48 : Int) ≤ (x : Int)) = true := decide_eq_true (by omega)
        have t7 : decide ((x : Int) ≤ 57) = false := decide_eq_false (by omega)
        have t8 : ((x : Int) == 45) = false := by rw [beq_eq_false_iff_ne]; omega
        have hlet : letterB x = true := by unfold letterB; simp; omega
        have hmor : moreB x = false := by unfold moreB; simp; omega
        rw [hlet, hmor] at hst
        clear hlet hmor hc
        have hn : Hid (bareFrom (decide (k + 1 = 0)) (s.data.toList.drop (k + 1)) = BF) := by
          show _ = _
          rw [← hz.out]; simpa using hst
        clear hst hz
        go_wp2_with fail
        go_round
        case rel => exact ⟨k + 1, by omega, by go_num, hn.out⟩
        case measure => simp [intOf]; omega
      · have t1 : decide ((97 : Int) ≤ (x : Int)) = true := decide_eq_true (by omega)
        have t2 : decide ((x : Int) ≤ 122) = false := decide_eq_false (by omega)
        have t3 : decide ((65 : Int) ≤ (x : Int)) = true := decide_eq_true (by omega)
        have t4 : decide ((x : Int) ≤ 90) = false := decide_eq_false (by omega)
        have t5 : ((x : Int) == 95) = false := by rw [beq_eq_false_iff_ne]; omega
        have t6 : decide ((48 : Int) ≤ (x : Int)) = true := decide_eq_true (by omega)
        have t7 : decide ((x : Int) ≤ 57) = false := decide_eq_false (by omega)
        have t8 : ((x : Int) == 45) = false := by rw [beq_eq_false_iff_ne]; omega
        have hlet : letterB x = false := by unfold letterB; simp; omega
        have hmor : moreB x = false := by unfold moreB; simp; omega
        rw [hlet, hmor] at hst
        clear hlet hmor hc
        have N := Lib.hid (HNO.out (by rw [← hst]; simp))
        clear hst hz
        go_wp2_with fail
        try go_ret
        exact N.out
    · have hbf : BF = true := by rw [← hq.out]; exact HEND.out k _ (by omega)
      have HW2 := Lib.hid (HWD.out hbf)
      clear hq hbf
      have hwb := HWB.out
      cases c0 : (s.toList == [110, 117, 108, 108]) with
      | true =>
        have N := Lib.hid (HW2.out false (by rw [hwb, c0]; simp))
        clear hwb
        go_wp2_with fail
        try go_ret
        exact N.out
      | false =>
        cases c1 : (s.toList == [116, 114, 117, 101]) with
        | true =>
          have N := Lib.hid (HW2.out false (by rw [hwb, c0, c1]; simp))
          clear hwb
          go_wp2_with fail
          try go_ret
          exact N.out
        | false =>
          cases c2 : (s.toList == [102, 97, 108, 115, 101]) with
          | true =>
            have N := Lib.hid (HW2.out false (by rw [hwb, c0, c1, c2]; simp))
            clear hwb
            go_wp2_with fail
            try go_ret
            exact N.out
          | false =>
            cases c3 : (s.toList == [110, 97, 110]) with
            | true =>
              have N := Lib.hid (HW2.out false (by rw [hwb, c0, c1, c2, c3]; simp))
              clear hwb
              go_wp2_with fail
              try go_ret
              exact N.out
            | false =>
              cases c4 : (s.toList == [105, 110, 102]) with
              | true =>
                have N := Lib.hid (HW2.out false (by rw [hwb, c0, c1, c2, c3, c4]; simp))
                clear hwb
                go_wp2_with fail
                try go_ret
                exact N.out
              | false =>
                have N := Lib.hid (HW2.out true (by rw [hwb, c0, c1, c2, c3, c4]; rfl))
                clear hwb
                go_wp2_with fail
                try go_ret
                exact N.out

set_option maxHeartbeats 1000000 in
theorem key_bare (s : ByteArray) (w : World) (hs : s.size ≤ 100000000) (hb : bareOf s.data.toList = true) : Calls Tryd.prog 14 #[.string s] w fun e w' => e = .returned (.tuple #[.string s, .int .i64 0]) ∧ Below w.heap.size w w' := by
  have h := bare_any s w (by omega)
  rw [hb] at h
  have H := Lib.hid h
  unfold BoolB at H
  clear h hb
  go_enter Tryd.func14, Tryd.ntmps14
  go_wp2_with fail
  refine H.out.mono ?_
  rintro e0 w1 ⟨rfl, hb⟩
  have B := Lib.hid hb
  clear hb
  go_wp2_with fail
  try go_ret2
  exact ⟨rfl, B.out⟩
set_option maxHeartbeats 1000000 in
theorem key_quote (s : ByteArray) (x : List UInt8) (c : Int) (w : World) (hs : s.size ≤ 100000000) (hT : ETabs w) (hb : bareOf s.data.toList = false) (hq : ∀ w0, ETabs w0 → Calls Tryd.prog 24 #[.string s] w0 (StrErr x c w0)) :
    Calls Tryd.prog 14 #[.string s] w (StrErr x c w) := by
  have h := bare_any s w (by omega)
  rw [hb] at h
  have H := Lib.hid h
  unfold BoolB at H
  have HQ := Lib.hid hq
  have HT := Lib.hid hT
  clear h hb hq hT
  go_enter Tryd.func14, Tryd.ntmps14
  go_wp2_with fail
  refine H.out.mono ?_
  rintro e0 w1 ⟨rfl, hb⟩
  have Q := Lib.hid (HQ.out w1 (HT.out.keep hb))
  unfold StrErr at Q
  have B := Lib.hid hb
  clear hb
  go_wp2_with fail
  refine Q.out.mono ?_
  rintro e0 w2 ⟨rfl, hb⟩
  have B2 := Lib.hid (B.out.trans (hb.mono B.out.size))
  clear hb
  go_wp2_with fail
  try go_ret2
  exact ⟨rfl, B2.out⟩
end Go.Proofs.YtopfkelhgffomaaDoor
