/-
  The contracts of num.digit, num.base and typecasekeep.nums. No conditions.
-/
import Derived.Test.YtpoagjiknmahiaaDoorShelf
import Derived.Test.YtpoagjiknmahiaaDoorGx
import Derived.WalkLawsBesides
import Derived.Deep.DeepFit
namespace Go.Proofs.YtpoagjiknmahiaaDoor
open Go.RowKit Gx

def digitOf (c : Int) : Int := if 48 ≤ c ∧ c ≤ 57 then c - 48 else if 97 ≤ c ∧ c ≤ 102 then c - 97 + 10 else if 65 ≤ c ∧ c ≤ 70 then c - 65 + 10 else 99
theorem digitOf_le (c : Int) : 0 ≤ digitOf c ∧ digitOf c ≤ 99 := by unfold digitOf; split <;> (try split) <;> (try split) <;> omega

def DigitPost (c : Int) (w : World) (e : Ending) (w' : World) : Prop := e = .returned (.int .u64 (digitOf c)) ∧ w = w'

set_option maxHeartbeats 400000 in
theorem digit_any (c : Int) (w : World) (h0 : 0 ≤ c) (h1 : c < 256) : Calls Tryd.prog 14 #[.int .u8 c] w (DigitPost c w) := by
  by_cases a : 48 ≤ c ∧ c ≤ 57
  · have e : digitOf c = c - 48 := by unfold digitOf; rw [if_pos a]
    obtain ⟨a1, a2⟩ := a
    have E := Lib.hid e
    clear e
    go_enter Tryd.func14, Tryd.ntmps14
    go_wp2
    go_ret
    exact ⟨by rw [E.out]; rfl, rfl⟩
  by_cases b : 97 ≤ c ∧ c ≤ 102
  · have e : digitOf c = c - 97 + 10 := by unfold digitOf; rw [if_neg a, if_pos b]
    obtain ⟨b1, b2⟩ := b
    have E := Lib.hid e
    clear e a
    have a1 : ¬ c ≤ 57 := by omega
    go_enter Tryd.func14, Tryd.ntmps14
    go_wp2
    go_ret
    exact ⟨by rw [E.out]; rfl, rfl⟩
  by_cases d : 65 ≤ c ∧ c ≤ 70
  · have e : digitOf c = c - 65 + 10 := by unfold digitOf; rw [if_neg a, if_neg b, if_pos d]
    obtain ⟨d1, d2⟩ := d
    have E := Lib.hid e
    clear e a b
    have a1 : ¬ c ≤ 57 := by omega
    have a2 : ¬ 97 ≤ c := by omega
    go_enter Tryd.func14, Tryd.ntmps14
    go_wp2
    go_ret
    exact ⟨by rw [E.out]; rfl, rfl⟩
  · have e : digitOf c = 99 := by unfold digitOf; rw [if_neg a, if_neg b, if_neg d]
    have E := Lib.hid e
    clear e
    have c1 : c < 48 ∨ (57 < c ∧ c < 65) ∨ (70 < c ∧ c < 97) ∨ 102 < c := by omega
    clear a b d
    rcases c1 with c1 | ⟨c1, c2⟩ | ⟨c1, c2⟩ | c1
    all_goals
      go_enter Tryd.func14, Tryd.ntmps14
      go_wp2
      go_ret
      exact ⟨by rw [E.out]; rfl, rfl⟩

def TruePost (w : World) (e : Ending) (w' : World) : Prop := e = .returned (.bool true) ∧ Below w.heap.size w w'

theorem five : Lib.decDigits 5 = [53] := by decide +kernel

set_option maxHeartbeats 400000 in
theorem text_five (w : World) : Calls Tryd.prog 10 #[.int .i64 5] w fun e w' => e = .returned (.string ⟨#[53]⟩) ∧ w = w' := by
  have h := Tryd.strconv_FormatInt_10_small 5 (by decide) w
  rw [five] at h
  have H := Lib.hid h
  clear h
  go_enter Tryd.func10, Tryd.ntmps10
  go_wp2_with fail
  refine H.out.mono ?_
  rintro e w' ⟨rfl, rfl⟩
  go_wp2
  go_ret
  exact ⟨rfl, rfl⟩

set_option maxHeartbeats 400000 in
theorem nums_any (w : World) : Calls Tryd.prog 6 #[] w (TruePost w) := by
  go_enter Tryd.func6, Tryd.ntmps6
  go_wp2_with fail
  refine (text_five w).mono ?_
  rintro e w' ⟨rfl, rfl⟩
  go_wp2
  go_ret
  exact ⟨rfl, Below.refl _ _⟩

/-- the base of a numeral, and what stands behind what tells it -/
def baseOf (l : List UInt8) : Nat × List UInt8 :=
  if Lib.hasPrefix l [48, 120] then (16, Lib.trimPrefix l [48, 120]) else if Lib.hasPrefix l [48, 111] then (8, Lib.trimPrefix l [48, 111]) else if Lib.hasPrefix l [48, 98] then (2, Lib.trimPrefix l [48, 98]) else (10, l)

def BasePost (l : List UInt8) (w : World) (e : Ending) (w' : World) : Prop :=
  e = .returned (.tuple #[.int .u64 ((baseOf l).1 : Nat), .string ⟨(baseOf l).2.toArray⟩]) ∧ Below w.heap.size w w'

theorem bytes_ext (s : ByteArray) (x : List UInt8) (h : s.data.toList = x) : s = ⟨x.toArray⟩ := by
  apply ByteArray.ext
  apply Array.toList_inj.1
  simpa using h

set_option maxHeartbeats 2000000 in
theorem base_any (s : ByteArray) (w : World) : Calls Tryd.prog 13 #[.string s] w (BasePost s.data.toList w) := by
  have h1 := fun w => Tryd.strings_CutPrefix s ⟨#[48, 120]⟩ w
  have h2 := fun w => Tryd.strings_CutPrefix s ⟨#[48, 111]⟩ w
  have h3 := fun w => Tryd.strings_CutPrefix s ⟨#[48, 98]⟩ w
  have hx := bytes_ext s _ rfl
  obtain ⟨l, hl⟩ : ∃ l, l = s.data.toList := ⟨_, rfl⟩
  rw [← hl] at hx ⊢
  simp only [← hl] at h1 h2 h3
  have HX := Lib.hid hx
  have H1 := Lib.hid h1
  have H2 := Lib.hid h2
  have H3 := Lib.hid h3
  clear h1 h2 h3 hx hl
  go_enter Tryd.func13, Tryd.ntmps13
  go_wp2_with fail
  refine wp_loop_rounds 4 ?_
  rw [rounds_succ]
  go_wp2_with fail
  refine (H1.out _).mono ?_
  rintro e w' ⟨rfl, rfl⟩
  cases p1 : Lib.hasPrefix l [48, 120] with
  | true =>
    have e : baseOf l = (16, Lib.trimPrefix l [48, 120]) := by unfold baseOf; rw [p1]; rfl
    have E := Lib.hid e
    clear e
    go_wp2
    go_ret2
    exact ⟨by rw [E.out]; rfl, (((Below.refl _ w).alloc (Nat.le_refl _) _).alloc (by simp) _)⟩
  | false =>
    go_wp2_with fail
    rw [rounds_succ]
    go_wp2_with fail
    refine (H2.out _).mono ?_
    rintro e w' ⟨rfl, rfl⟩
    cases p2 : Lib.hasPrefix l [48, 111] with
    | true =>
      have e : baseOf l = (8, Lib.trimPrefix l [48, 111]) := by unfold baseOf; rw [p1, p2]; rfl
      have E := Lib.hid e
      clear e
      go_wp2
      go_ret2
      exact ⟨by rw [E.out]; rfl, ((((Below.refl _ w).alloc (Nat.le_refl _) _).alloc (by simp) _).alloc (by simp; omega) _)⟩
    | false =>
      go_wp2_with fail
      rw [rounds_succ]
      go_wp2_with fail
      refine (H3.out _).mono ?_
      rintro e w' ⟨rfl, rfl⟩
      cases p3 : Lib.hasPrefix l [48, 98] with
      | true =>
        have e : baseOf l = (2, Lib.trimPrefix l [48, 98]) := by unfold baseOf; rw [p1, p2, p3]; rfl
        have E := Lib.hid e
        clear e
        go_wp2
        go_ret2
        exact ⟨by rw [E.out]; rfl, (((((Below.refl _ w).alloc (Nat.le_refl _) _).alloc (by simp) _).alloc (by simp; omega) _).alloc (by simp; omega) _)⟩
      | false =>
        have e : baseOf l = (10, l) := by unfold baseOf; rw [p1, p2, p3]; rfl
        have E := Lib.hid e
        clear e
        go_wp2_with fail
        rw [rounds_succ]
        go_wp2
        go_ret2
        exact ⟨by rw [E.out, HX.out]; rfl, (((((Below.refl _ w).alloc (Nat.le_refl _) _).alloc (by simp) _).alloc (by simp; omega) _).alloc (by simp; omega) _)⟩
end Go.Proofs.YtpoagjiknmahiaaDoor
