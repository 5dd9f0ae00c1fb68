/-
  The contract of tok.class. No conditions.
-/
import Derived.Test.YtfjeikijmconoaaProg
import Derived.WalkLawsBesides
import Derived.Test.YtfjeikijmconoaaGx
import Derived.Test.YtfjeikijmconoaaShelf
namespace Go.Proofs.Ytfjeikijmconoaa
open Go.RowKit Gx

def isWordByte (c : Int) : Bool := (decide (97 ≤ c) && decide (c ≤ 122)) || (decide (65 ≤ c) && decide (c ≤ 90)) || (decide (48 ≤ c) && decide (c ≤ 57)) || c == 95 || c == 45 || c == 43 || c == 46
def isMarkByte (c : Int) : Bool := c == 123 || c == 125 || c == 91 || c == 93 || c == 58 || c == 61 || c == 44
/-- the class of a byte -/
def classOf (c : Int) : Int :=
  if c = 32 ∨ c = 9 ∨ c = 13 then 1 else if c = 10 then 2 else if c = 35 ∨ c = 47 then 3 else if isWordByte c = true then 4 else if c = 34 then 5 else if isMarkByte c = true then 6 else 7

def IdxPost (b : Bool) (w : World) (e : Ending) (w' : World) : Prop := ∃ k : Int, e = .returned (.int .i64 k) ∧ decide (0 ≤ k) = b ∧ w = w'
theorem indexByte_cons (a : UInt8) (l : List UInt8) (c : UInt8) : Lib.indexByte (a :: l) c = if a == c then 0 else if Lib.indexByte l c == -1 then -1 else Lib.indexByte l c + 1 := rfl
theorem indexByte_low (l : List UInt8) (c : UInt8) : -1 ≤ Lib.indexByte l c := by
  induction l with
  | nil => simp [Lib.indexByte]
  | cons a l ih =>
    rw [indexByte_cons]
    split
    · omega
    · split <;> omega
theorem indexByte_mem (l : List UInt8) (c : UInt8) : decide (0 ≤ Lib.indexByte l c) = l.contains c := by
  induction l with
  | nil => simp [Lib.indexByte]
  | cons a l ih =>
    have hlow := indexByte_low l c
    by_cases h : a = c
    · subst h; simp [Lib.indexByte]
    · have h' : (c == a) = false := by simpa using fun e => h e.symm
      have h2 : (a == c) = false := by simpa using h
      rw [List.contains_cons, h', Bool.false_or, ← ih]
      rw [indexByte_cons, h2]
      simp only [Bool.false_eq_true, ↓reduceIte, beq_iff_eq]
      by_cases h3 : Lib.indexByte l c = -1
      · rw [h3]; rfl
      · rw [if_neg h3]
        have : 0 ≤ Lib.indexByte l c := by omega
        simp; omega

theorem byte_eq (c : Int) (n : Nat) (h0 : 0 ≤ c) (h1 : c ≤ 255) (hn : n < 256) : (c.toNat.toUInt8 == n.toUInt8) = (c == (n : Int)) := by
  rw [Bool.eq_iff_iff, beq_iff_eq, beq_iff_eq]
  constructor
  · intro h
    have := congrArg UInt8.toNat h
    simp at this
    omega
  · intro h
    subst h
    simp

theorem idx_word (c : Int) (w : World) (h0 : 0 ≤ c) (h1 : c ≤ 255) : Calls Try.prog 32 #[.string { data := #[95, 45, 43, 46] }, .int .u8 c] w (IdxPost (c == 95 || c == 45 || c == 43 || c == 46) w) := by
  refine (Try.strings_IndexByte _ c w).mono ?_
  rintro e w' ⟨rfl, rfl⟩
  refine ⟨_, rfl, ?_, rfl⟩
  rw [indexByte_mem]
  show ([95, 45, 43, 46] : List UInt8).contains c.toNat.toUInt8 = _
  have e1 := byte_eq c 95 h0 h1 (by decide)
  have e2 := byte_eq c 45 h0 h1 (by decide)
  have e3 := byte_eq c 43 h0 h1 (by decide)
  have e4 := byte_eq c 46 h0 h1 (by decide)
  have f1 : (95 : Nat).toUInt8 = 95 := rfl
  have f2 : (45 : Nat).toUInt8 = 45 := rfl
  have f3 : (43 : Nat).toUInt8 = 43 := rfl
  have f4 : (46 : Nat).toUInt8 = 46 := rfl
  rw [f1] at e1; rw [f2] at e2; rw [f3] at e3; rw [f4] at e4
  simp only [List.contains_cons, e1, e2, e3, e4, List.contains_nil, Bool.or_false]
  simp [Bool.or_assoc]

theorem idx_mark (c : Int) (w : World) (h0 : 0 ≤ c) (h1 : c ≤ 255) : Calls Try.prog 32 #[.string { data := #[123, 125, 91, 93, 58, 61, 44] }, .int .u8 c] w (IdxPost (isMarkByte c) w) := by
  refine (Try.strings_IndexByte _ c w).mono ?_
  rintro e w' ⟨rfl, rfl⟩
  refine ⟨_, rfl, ?_, rfl⟩
  rw [indexByte_mem]
  show ([123, 125, 91, 93, 58, 61, 44] : List UInt8).contains c.toNat.toUInt8 = _
  have e1 := byte_eq c 123 h0 h1 (by decide)
  have e2 := byte_eq c 125 h0 h1 (by decide)
  have e3 := byte_eq c 91 h0 h1 (by decide)
  have e4 := byte_eq c 93 h0 h1 (by decide)
  have e5 := byte_eq c 58 h0 h1 (by decide)
  have e6 := byte_eq c 61 h0 h1 (by decide)
  have e7 := byte_eq c 44 h0 h1 (by decide)
  rw [show (123 : Nat).toUInt8 = 123 from rfl] at e1
  rw [show (125 : Nat).toUInt8 = 125 from rfl] at e2
  rw [show (91 : Nat).toUInt8 = 91 from rfl] at e3
  rw [show (93 : Nat).toUInt8 = 93 from rfl] at e4
  rw [show (58 : Nat).toUInt8 = 58 from rfl] at e5
  rw [show (61 : Nat).toUInt8 = 61 from rfl] at e6
  rw [show (44 : Nat).toUInt8 = 44 from rfl] at e7
  simp only [List.contains_cons, e1, e2, e3, e4, e5, e6, e7, List.contains_nil, Bool.or_false]
  simp [isMarkByte, Bool.or_assoc]

def ClassPost (c : Int) (w : World) (e : Ending) (w' : World) : Prop := e = .returned (.int .i64 (classOf c)) ∧ w = w'

set_option maxHeartbeats 4000000 in
theorem class_lit (c : Int) (w : World) (h : c = 32 ∨ c = 9 ∨ c = 13 ∨ c = 10 ∨ c = 35 ∨ c = 47) :
    Calls Try.prog 22 #[.int .u8 c] w (ClassPost c w) := by
  rcases h with rfl | rfl | rfl | rfl | rfl | rfl
  all_goals
    go_enter Try.func22, Try.ntmps22
    go_wp2
    go_ret
    exact ⟨rfl, rfl⟩

set_option maxHeartbeats 4000000 in
theorem class_range (c : Int) (w : World) (h : (97 ≤ c ∧ c ≤ 122) ∨ (65 ≤ c ∧ c ≤ 90) ∨ (48 ≤ c ∧ c ≤ 57)) :
    Calls Try.prog 22 #[.int .u8 c] w (ClassPost c w) := by
  have hw : isWordByte c = true := by unfold isWordByte; simp; omega
  have hc : Hid (classOf c = 4) := by show _ = _; unfold classOf; rw [if_neg (by omega), if_neg (by omega), if_neg (by omega), if_pos hw]
  clear hw
  have n1 : (c == 32) = false := by rw [beq_eq_false_iff_ne]; omega
  have n2 : (c == 9) = false := by rw [beq_eq_false_iff_ne]; omega
  have n3 : (c == 13) = false := by rw [beq_eq_false_iff_ne]; omega
  have n4 : (c == 10) = false := by rw [beq_eq_false_iff_ne]; omega
  have n5 : (c == 35) = false := by rw [beq_eq_false_iff_ne]; omega
  have n6 : (c == 47) = false := by rw [beq_eq_false_iff_ne]; omega
  rcases h with ⟨h1, h2⟩ | ⟨h1, h2⟩ | ⟨h1, h2⟩
  · have r1 : decide (97 ≤ c) = true := decide_eq_true h1
    have r2 : decide (c ≤ 122) = true := decide_eq_true h2
    go_enter Try.func22, Try.ntmps22
    go_wp2
    go_ret
    exact ⟨by rw [hc.out]; rfl, rfl⟩
  · have r1 : decide (97 ≤ c) = false := decide_eq_false (by omega)
    have r3 : decide (65 ≤ c) = true := decide_eq_true h1
    have r4 : decide (c ≤ 90) = true := decide_eq_true h2
    go_enter Try.func22, Try.ntmps22
    go_wp2
    go_ret
    exact ⟨by rw [hc.out]; rfl, rfl⟩
  · have r1 : decide (97 ≤ c) = false := decide_eq_false (by omega)
    have r3 : decide (65 ≤ c) = false := decide_eq_false (by omega)
    have r5 : decide (48 ≤ c) = true := decide_eq_true h1
    have r6 : decide (c ≤ 57) = true := decide_eq_true h2
    go_enter Try.func22, Try.ntmps22
    go_wp2
    go_ret
    exact ⟨by rw [hc.out]; rfl, rfl⟩

set_option maxHeartbeats 4000000 in
theorem class_wlit (c : Int) (w : World) (h : c = 95 ∨ c = 45 ∨ c = 43 ∨ c = 46) :
    Calls Try.prog 22 #[.int .u8 c] w (ClassPost c w) := by
  rcases h with rfl | rfl | rfl | rfl
  all_goals
    go_enter Try.func22, Try.ntmps22
    go_wp2_with fail
    refine (idx_word _ w (by decide) (by decide)).mono ?_
    rintro e w1 ⟨k, rfl, hk0, rfl⟩
    have hk : decide (0 ≤ k) = true := hk0
    clear hk0
    go_wp2_with fail
    go_ret
    exact ⟨rfl, rfl⟩

set_option maxHeartbeats 4000000 in
theorem class_quote (w : World) : Calls Try.prog 22 #[.int .u8 34] w (ClassPost 34 w) := by
  go_enter Try.func22, Try.ntmps22
  go_wp2_with fail
  refine (idx_word _ w (by decide) (by decide)).mono ?_
  rintro e w1 ⟨k, rfl, hk0, rfl⟩
  have hk : decide (0 ≤ k) = false := hk0
  clear hk0
  go_wp2_with fail
  go_ret
  exact ⟨rfl, rfl⟩

set_option maxHeartbeats 4000000 in
theorem class_mark (c : Int) (w : World) (h : c = 123 ∨ c = 125 ∨ c = 91 ∨ c = 93 ∨ c = 58 ∨ c = 61 ∨ c = 44) :
    Calls Try.prog 22 #[.int .u8 c] w (ClassPost c w) := by
  rcases h with rfl | rfl | rfl | rfl | rfl | rfl | rfl
  all_goals
    go_enter Try.func22, Try.ntmps22
    go_wp2_with fail
    refine (idx_word _ w (by decide) (by decide)).mono ?_
    rintro e w1 ⟨k, rfl, hk0, rfl⟩
    have hk : decide (0 ≤ k) = false := hk0
    clear hk0
    go_wp2_with fail
    refine (idx_mark _ w (by decide) (by decide)).mono ?_
    rintro e w1 ⟨k2, rfl, hk0, rfl⟩
    have hk2 : decide (0 ≤ k2) = true := hk0
    clear hk0
    go_wp2_with fail
    go_ret
    exact ⟨rfl, rfl⟩

set_option maxHeartbeats 4000000 in
theorem class_bad (c : Int) (w : World) (h0 : 0 ≤ c) (h1 : c ≤ 255) (n1 : (c == 32) = false) (n2 : (c == 9) = false) (n3 : (c == 13) = false) (n4 : (c == 10) = false) (n5 : (c == 35) = false) (n6 : (c == 47) = false) (n7 : (c == 34) = false)
    (hw : isWordByte c = false) (hm : isMarkByte c = false) :
    Calls Try.prog 22 #[.int .u8 c] w (ClassPost c w) := by
  have hcl : Hid (classOf c = 7) := by
    show _ = _
    unfold classOf
    simp at n1 n2 n3 n4 n5 n6 n7
    rw [if_neg (by omega), if_neg (by omega), if_neg (by omega), if_neg (by rw [hw]; decide), if_neg (by omega), if_neg (by rw [hm]; decide)]
  have hb : (c == 95 || c == 45 || c == 43 || c == 46) = false := by
    unfold isWordByte at hw
    cases h : (c == 95 || c == 45 || c == 43 || c == 46)
    · rfl
    · exfalso
      simp only [Bool.or_eq_true] at h
      simp only [Bool.or_eq_false_iff] at hw
      rcases h with ((h | h) | h) | h <;> simp_all
  have hr : (decide (97 ≤ c) && decide (c ≤ 122)) = false ∧ (decide (65 ≤ c) && decide (c ≤ 90)) = false ∧ (decide (48 ≤ c) && decide (c ≤ 57)) = false := by
    unfold isWordByte at hw
    simp only [Bool.or_eq_false_iff] at hw
    exact ⟨hw.1.1.1.1.1.1, hw.1.1.1.1.1.2, hw.1.1.1.1.2⟩
  have HI := Lib.hid (idx_word c w h0 h1)
  have HM := Lib.hid (idx_mark c w h0 h1)
  rw [hb] at HI
  rw [hm] at HM
  obtain ⟨r1, r2, r3⟩ := hr
  clear hb hw hm
  rw [Bool.and_eq_false_iff] at r1 r2 r3
  rcases r1 with r1 | r1 <;> rcases r2 with r2 | r2 <;> rcases r3 with r3 | r3
  all_goals
    try simp only [decide_eq_false_iff_not] at r1 r2 r3
    by_cases q1 : (97 : Int) ≤ c <;> by_cases q2 : (65 : Int) ≤ c <;> by_cases q3 : (48 : Int) ≤ c <;> first
      | (exfalso; omega)
      | (go_enter Try.func22, Try.ntmps22
         go_wp2_with fail
         refine HI.out.mono ?_
         rintro e w1 ⟨k, rfl, hk, rfl⟩
         go_wp2_with fail
         refine HM.out.mono ?_
         rintro e w1 ⟨k2, rfl, hk2, rfl⟩
         go_wp2_with fail
         go_ret
         exact ⟨by rw [hcl.out]; rfl, rfl⟩)

theorem class_any (c : Int) (w : World) (h0 : 0 ≤ c) (h1 : c ≤ 255) : Calls Try.prog 22 #[.int .u8 c] w (ClassPost c w) := by
  by_cases a1 : c = 32 ∨ c = 9 ∨ c = 13 ∨ c = 10 ∨ c = 35 ∨ c = 47
  · exact class_lit c w a1
  by_cases a2 : (97 ≤ c ∧ c ≤ 122) ∨ (65 ≤ c ∧ c ≤ 90) ∨ (48 ≤ c ∧ c ≤ 57)
  · exact class_range c w a2
  by_cases a3 : c = 95 ∨ c = 45 ∨ c = 43 ∨ c = 46
  · exact class_wlit c w a3
  by_cases a4 : c = 34
  · subst a4; exact class_quote w
  by_cases a5 : c = 123 ∨ c = 125 ∨ c = 91 ∨ c = 93 ∨ c = 58 ∨ c = 61 ∨ c = 44
  · exact class_mark c w a5
  refine class_bad c w h0 h1 ?_ ?_ ?_ ?_ ?_ ?_ ?_ ?_ ?_
  · rw [beq_eq_false_iff_ne]; omega
  · rw [beq_eq_false_iff_ne]; omega
  · rw [beq_eq_false_iff_ne]; omega
  · rw [beq_eq_false_iff_ne]; omega
  · rw [beq_eq_false_iff_ne]; omega
  · rw [beq_eq_false_iff_ne]; omega
  · rw [beq_eq_false_iff_ne]; omega
  · unfold isWordByte
    simp only [Bool.or_eq_false_iff, Bool.and_eq_false_iff, decide_eq_false_iff_not, beq_eq_false_iff_ne]
    omega
  · unfold isMarkByte
    simp only [Bool.or_eq_false_iff, beq_eq_false_iff_ne]
    omega
end Go.Proofs.Ytfjeikijmconoaa
