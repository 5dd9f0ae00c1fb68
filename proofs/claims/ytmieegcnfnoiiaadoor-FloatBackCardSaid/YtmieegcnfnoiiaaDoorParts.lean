/-
  The contracts of float.Parts, and of the statements' first question. Conditions: 64 bits.
-/
import Derived.Test.YtmieegcnfnoiiaaDoorNear
import Derived.Lib.Strings
namespace Go.Proofs.YtmieegcnfnoiiaaDoor
open Go.RowKit Gx
set_option maxRecDepth 100000

theorem and_mask (x n : Nat) (hx : x < 18446744073709551616) (m : Nat) (hm : m + 1 = 2 ^ n) (hm2 : m < 18446744073709551616) : bits BinOp.and IntKind.u64 (x : Int) (m : Int) = ((x % 2 ^ n : Nat) : Int) := by
  rw [bits_and_u64_nat x m hx hm2, show m = 2 ^ n - 1 by omega, Nat.and_two_pow_sub_one_eq_mod]
theorem or_hidden (f : Nat) (h : f < 4503599627370496) : bits BinOp.or IntKind.u64 (f : Int) 4503599627370496 = ((f + 4503599627370496 : Nat) : Int) := by
  have h52 : (2 : Nat) ^ 52 = 4503599627370496 := by decide
  have h2 := bits_or_u64_nat f 4503599627370496 (by omega) (by omega)
  have h3 := Nat.shiftLeft_add_eq_or_of_lt (b := f) (i := 52) (by rw [h52]; exact h) 1
  rw [Nat.shiftLeft_eq, Nat.one_mul, h52, Nat.or_comm] at h3
  rw [← h3, Nat.add_comm] at h2
  exact h2

/-- what the bits tell: of which kind, and which number -/
def PartsPost (b : Nat) (w : World) (e : Ending) (w' : World) : Prop :=
  ∃ (m : Nat) (x k : Int), e = .returned (.tuple #[.int .u64 m, .int .i64 x, .int .i64 k]) ∧
    ((b / 4503599627370496 % 2048 = 2047 ∧ m = 0 ∧ ((b % 4503599627370496 = 0 ∧ k = 1) ∨ (b % 4503599627370496 ≠ 0 ∧ k = 2))) ∨
     (b / 4503599627370496 % 2048 ≠ 2047 ∧ k = 0 ∧ m < 9007199254740992 ∧ ∃ E : Nat, x = (E : Int) - 1074 ∧ E ≤ 2045 ∧ (E = 0 ∨ 4503599627370496 ≤ m) ∧ b % 9223372036854775808 = E * 4503599627370496 + m)) ∧ w = w'

theorem tup3 {a b c d : Int} (h : a = b) : Ending.returned (Value.tuple #[Value.int .u64 a, Value.int .i64 c, Value.int .i64 d]) = Ending.returned (Value.tuple #[Value.int .u64 b, Value.int .i64 c, Value.int .i64 d]) := by rw [h]
theorem fin_parts (B ee f : Nat) (h : B = ee * 4503599627370496 + f) (h0 : ee ≠ 0) : B = (ee - 1) * 4503599627370496 + (f + 4503599627370496) := by
  obtain ⟨k, rfl⟩ : ∃ k, ee = k + 1 := ⟨ee - 1, by omega⟩
  rw [h, Nat.add_sub_cancel, Nat.add_mul, Nat.one_mul, Nat.add_comm f, Nat.add_assoc]
theorem shr52 (b : Nat) : (b : Int) / 4503599627370496 = ((b / 4503599627370496 : Nat) : Int) := by omega

set_option maxHeartbeats 1000000 in
theorem parts_any (b : Nat) (w : World) (hb : b < 18446744073709551616) :
    Calls Tryd.prog 19 #[.int .u64 b] w (PartsPost b w) := by
  have e1 := shr52 b
  have e2 := and_mask (b / 4503599627370496) 11 (by omega) 2047 (by decide) (by omega)
  have e3 := and_mask b 52 hb 4503599627370495 (by decide) (by omega)
  have p11 : (2 : Nat) ^ 11 = 2048 := by decide
  have p52 : (2 : Nat) ^ 52 = 4503599627370496 := by decide
  rw [p11, ← e1] at e2
  rw [p52] at e3
  obtain ⟨ee, hee⟩ : ∃ x, x = b / 4503599627370496 % 2048 := ⟨_, rfl⟩
  obtain ⟨f, hf⟩ : ∃ x, x = b % 4503599627370496 := ⟨_, rfl⟩
  rw [← hee] at e2
  rw [← hf] at e3
  have hor := or_hidden f (by omega)
  have hfin : Hid (b % 9223372036854775808 = ee * 4503599627370496 + f) := by show _ = _; omega
  have HEE := Lib.hid hee
  have HF := Lib.hid hf
  have hee2 : ee < 2048 := by omega
  have hf2 : f < 4503599627370496 := by omega
  have e2' : bits BinOp.and IntKind.u64 ((b : Int) / 4503599627370496) 2047 = (ee : Int) := e2
  have e3' : bits BinOp.and IntKind.u64 (b : Int) 4503599627370495 = (f : Int) := e3
  have HF2 := Lib.hid hf2
  clear e1 e2 e3 p11 p52 hee hf hb hf2
  by_cases h1 : ee = 2047
  · subst h1
    by_cases h2 : f = 0
    · subst h2
      go_enter Tryd.func19, Tryd.ntmps19
      go_wp2
      go_ret3
      exact ⟨0, 0, 1, rfl, .inl ⟨HEE.out.symm, rfl, .inl ⟨HF.out.symm, rfl⟩⟩, rfl⟩
    · obtain ⟨n1, n2, n3⟩ := kcn h2
      have HH := Lib.hid h2
      clear h2
      go_enter Tryd.func19, Tryd.ntmps19
      go_wp2
      go_ret3
      exact ⟨0, 0, 2, rfl, .inl ⟨HEE.out.symm, rfl, .inr ⟨by rw [← HF.out]; exact HH.out, rfl⟩⟩, rfl⟩
  · have t1 : ((ee : Int) == 2047) = false := by rw [beq_eq_false_iff_ne]; omega
    have t2 : decide ((ee : Int) = 2047) = false := decide_eq_false (by omega)
    have HH := Lib.hid h1
    clear h1
    by_cases h2 : ee = 0
    · subst h2
      go_enter Tryd.func19, Tryd.ntmps19
      go_wp2
      go_ret3
      refine ⟨f, -1074, 0, rfl, .inr ⟨by rw [← HEE.out]; decide, rfl, by have := HF2.out; omega, 0, by omega, by omega, .inl rfl, hfin.out⟩, rfl⟩
    · obtain ⟨n1, n2, n3⟩ := kcn h2
      have H2 := Lib.hid h2
      clear h2
      go_enter Tryd.func19, Tryd.ntmps19
      go_wp2
      go_ret3
      refine ⟨f + 4503599627370496, (ee : Int) - 1075, 0, tup3 (a := (f : Int) + 4503599627370496) (by omega), .inr ⟨by rw [← HEE.out]; exact HH.out, rfl, by have := HF2.out; omega, ee - 1, by have := H2.out; omega, by have := HH.out; omega, .inr (by omega), fin_parts _ _ _ hfin.out H2.out⟩, rfl⟩

def TrueP (w : World) (e : Ending) (w' : World) : Prop := e = .returned (.bool true) ∧ w = w'
theorem text_zero (w : World) : Calls Tryd.prog 21 #[.int .u64 0] w fun e w' => e = .returned (.string ⟨#[48, 46, 48]⟩) ∧ w = w' := by
  have H := parts_any 0 w (by omega)
  unfold PartsPost at H
  have HP := Lib.hid H
  clear H
  go_enter Tryd.func21, Tryd.ntmps21
  go_wp2_with fail
  refine HP.out.mono ?_
  rintro e w1 ⟨m, x, k, rfl, hk, rfl⟩
  rcases hk with ⟨h1, -⟩ | ⟨-, rfl, h2, E, rfl, h3, h4, h5⟩
  · exfalso; revert h1; decide
  · obtain rfl : m = 0 := by omega
    clear h2 h3 h4 h5
    go_wp2
    go_ret
    exact ⟨rfl, rfl⟩
theorem floats_any (w : World) : Calls Tryd.prog 9 #[] w (TrueP w) := by
  have H := Lib.hid (text_zero w)
  go_enter Tryd.func9, Tryd.ntmps9
  go_wp2_with fail
  refine H.out.mono ?_
  rintro e w1 ⟨rfl, rfl⟩
  go_wp2
  go_ret
  exact ⟨rfl, rfl⟩
end Go.Proofs.YtmieegcnfnoiiaaDoor
