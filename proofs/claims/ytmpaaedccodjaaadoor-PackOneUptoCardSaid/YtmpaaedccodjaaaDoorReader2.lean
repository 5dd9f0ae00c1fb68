/-
  The contracts of the reader's more and word. No conditions.
-/
import Derived.Test.YtmpaaedccodjaaaDoorReader
import Derived.Test.YtmpaaedccodjaaaDoorReadPLaw
namespace Go.Proofs.YtmpaaedccodjaaaDoor
open Go.RowKit Gx
set_option maxRecDepth 100000

def rmore (l : List Int) (bad : Bool) : Bool × List Int × Bool :=
  (decide ((rbyte l bad).1 = 1) && !((rbyte l bad).2.2 || decide (1 < (rbyte l bad).1)), (rbyte l bad).2.1, (rbyte l bad).2.2 || decide (1 < (rbyte l bad).1))
def MPost (n₀ R : Nat) (r : Bool × List Int × Bool) (w : World) (e : Ending) (w' : World) : Prop := e = .returned (.bool r.1) ∧ RdS n₀ w' R r.2.1 r.2.2 ∧ w.grownBy w' (some R)
theorem grown_twice {w w1 w2 : World} {R : Nat} (h : w.grownBy w1 (some R)) (k : w1.grownBy w2 (some R)) : w.grownBy w2 (some R) :=
  ⟨k.os.trans h.os, k.tape.trans h.tape, k.output.trans h.output, Nat.le_trans h.size k.size, fun i hi hne => (k.block i (Nat.lt_of_lt_of_le hi h.size) hne).trans (h.block i hi hne)⟩
theorem rbyte_wf {n₀ R : Nat} {l : List Int} {bad : Bool} {w : World} (h : RdS n₀ w R l bad) : 0 ≤ (rbyte l bad).1 ∧ (rbyte l bad).1 ≤ 255 := by
  obtain ⟨⟨ad, c, h1, h2, h3⟩, h4, h5⟩ := h
  cases l with
  | nil => exact ⟨Int.le_refl 0, by show (0 : Int) ≤ 255; decide⟩
  | cons x l =>
    have := h2.wf x (by simp)
    simp [Lit.wf, IntKind.min, IntKind.max, IntKind.signed, IntKind.bits] at this
    exact this
set_option maxHeartbeats 4000000 in
theorem more_any (n₀ R : Nat) (l : List Int) (bad : Bool) (w : World) (h : RdS n₀ w R l bad) : Calls Tryd.prog 41 #[.pointer (some ⟨R, 0, none⟩)] w (MPost n₀ R (rmore l bad) w) := by
  obtain ⟨mm, hmm⟩ : ∃ mm, rmore l bad = mm := ⟨_, rfl⟩
  have HB := Lib.hid (byte_any n₀ R l bad w h)
  have hwf := rbyte_wf h
  have hr : rmore l bad = (decide ((rbyte l bad).1 = 1) && !((rbyte l bad).2.2 || decide (1 < (rbyte l bad).1)), (rbyte l bad).2.1, (rbyte l bad).2.2 || decide (1 < (rbyte l bad).1)) := rfl
  rw [hmm] at hr ⊢
  have HR := Lib.hid hr
  clear hr h hmm
  obtain ⟨⟨x, l', bad'⟩, hrb⟩ : ∃ r, rbyte l bad = r := ⟨_, rfl⟩
  rw [hrb] at HB HR hwf
  obtain ⟨hx0, hx1⟩ := hwf
  simp only at hx0 hx1 HR
  clear hrb
  go_enter Tryd.func41, Tryd.ntmps41
  go_wp2_with fail
  (with_reducible refine HB.out.mono ?_)
  rintro e w2 ⟨rfl, h2, hg⟩
  simp only at h2 ⊢
  obtain ⟨ad, c, c0, c1, fz⟩ := h2.cells
  have f1 := fz 1
  have H2 := Lib.hid h2
  have HG := Lib.hid hg
  clear h2 hg fz c0
  have hs : ∀ b, RdS n₀ (w2.setCell ⟨R, 1, none⟩ (.bool b)) R l' b ∧ w.grownBy (w2.setCell ⟨R, 1, none⟩ (.bool b)) (some R) ∧ (w2.setCell ⟨R, 1, none⟩ (.bool b)).cell? ⟨R, 1, none⟩ = some (.bool b) := fun b => by
    have h3 := H2.out.setBad b
    obtain ⟨_, _, _, k, _⟩ := h3.cells
    exact ⟨h3, grown_twice HG.out (grown_cell w2 R 1 _), k⟩
  have HS := Lib.hid hs
  clear hs
  by_cases h1 : x = 1
  · subst h1
    cases bad' with
    | true =>
      have k := (HS.out true).2.2
      go_wp2_with fail
      try go_ret
      exact ⟨by rw [HR.out]; rfl, by rw [HR.out]; exact (HS.out true).1, (HS.out true).2.1⟩
    | false =>
      have k := (HS.out false).2.2
      go_wp2_with fail
      try go_ret
      exact ⟨by rw [HR.out]; rfl, by rw [HR.out]; exact (HS.out false).1, (HS.out false).2.1⟩
  · have t1 : (x == 1) = false := by simpa using h1
    have e1 : decide (x = 1) = false := decide_eq_false h1
    by_cases h2 : 1 < x
    · have t2 : decide (1 < x) = true := decide_eq_true h2
      have HR2 : Hid (mm = (false, l', true)) := Lib.hid (by rw [HR.out, e1, t2]; cases bad' <;> rfl)
      have k := (HS.out true).2.2
      clear h1 e1
      cases bad' with
      | true =>
        go_wp2_with fail
        try go_ret
        exact ⟨by rw [HR2.out]; rfl, by rw [HR2.out]; exact (HS.out true).1, (HS.out true).2.1⟩
      | false =>
        go_wp2_with fail
        try go_ret
        exact ⟨by rw [HR2.out]; rfl, by rw [HR2.out]; exact (HS.out true).1, (HS.out true).2.1⟩
    · have t2 : decide (1 < x) = false := decide_eq_false h2
      have HR2 : Hid (mm = (false, l', bad')) := Lib.hid (by rw [HR.out, e1, t2]; cases bad' <;> rfl)
      have k := (HS.out bad').2.2
      clear h1 e1
      cases bad' with
      | true =>
        go_wp2_with fail
        try go_ret
        exact ⟨by rw [HR2.out]; rfl, by rw [HR2.out]; exact (HS.out true).1, (HS.out true).2.1⟩
      | false =>
        go_wp2_with fail
        try go_ret
        exact ⟨by rw [HR2.out]; rfl, by rw [HR2.out]; exact (HS.out false).1, (HS.out false).2.1⟩

/-- so many bytes as a number -/
def rword : Nat → Int → List Int → Bool → Int × List Int × Bool
  | 0, n, l, bad => (n, l, bad)
  | j + 1, n, l, bad => rword j (bits .or .u64 (IntKind.u64.wrap (n * 256)) (rbyte l bad).1) (rbyte l bad).2.1 (rbyte l bad).2.2
def WPost (n₀ R : Nat) (r : Int × List Int × Bool) (w : World) (e : Ending) (w' : World) : Prop := e = .returned (.int .u64 r.1) ∧ RdS n₀ w' R r.2.1 r.2.2 ∧ w.grownBy w' (some R)
set_option maxHeartbeats 4000000 in
theorem rword_any (n₀ R : Nat) (l : List Int) (bad : Bool) (w : World) (h : RdS n₀ w R l bad) : Calls Tryd.prog 39 #[.pointer (some ⟨R, 0, none⟩)] w (WPost n₀ R (rword 8 0 l bad) w) := by
  obtain ⟨rr, hrr⟩ : ∃ rr, rword 8 0 l bad = rr := ⟨_, rfl⟩
  rw [hrr]
  have HRR := Lib.hid hrr
  have H := Lib.hid h
  clear hrr h
  go_enter Tryd.func39, Tryd.ntmps39
  go_wp2_with fail
  go_loopw [3, 4] (fun v3 v4 wr => ∃ (k : Nat) (n : Int) (l' : List Int) (bad' : Bool), k ≤ 8 ∧ v4 = .int .i64 k ∧ v3 = .int .u64 n ∧ Hid (rword (8 - k) n l' bad' = rr) ∧ Hid (RdS n₀ wr R l' bad') ∧ Hid (w.grownBy wr (some R))) (fun _ v4 _ => 8 - (intOf v4).toNat)
  case atStart => exact ⟨0, 0, l, bad, by omega, rfl, rfl, HRR, H, Lib.hid (World.grownBy.refl _ _)⟩
  case round =>
    obtain ⟨k, n, l', bad', hk, rfl, rfl, HW, HS, HG⟩ := hrel
    by_cases hlt : k < 8
    · have HB := Lib.hid (byte_any n₀ R l' bad' wr HS.out)
      have hwf := rbyte_wf HS.out
      obtain ⟨⟨x, l2, b2⟩, hrb⟩ : ∃ r, rbyte l' bad' = r := ⟨_, rfl⟩
      rw [hrb] at hwf
      obtain ⟨hx0, hx1⟩ := hwf
      simp only at hx0 hx1
      have hw := HW.out
      rw [show 8 - k = (8 - (k + 1)) + 1 by omega, rword, hrb] at hw
      rw [hrb] at HB
      have HW2 := Lib.hid hw
      clear hw hrb HW
      go_wp2_with fail
      (with_reducible refine HB.out.mono ?_)
      rintro e w2 ⟨rfl, h2, hg⟩
      have HS2 := Lib.hid h2
      have HG2 := Lib.hid (grown_twice HG.out hg)
      clear h2 hg HB
      simp only at HW2 HS2 ⊢
      go_wp2_with fail
      go_roundw
      case rel => exact ⟨k + 1, _, l2, b2, by omega, by go_num, rfl, HW2, HS2, HG2⟩
      case measure => simp [intOf]; omega
    · obtain rfl : k = 8 := by omega
      have hw := HW.out
      rw [show 8 - 8 = 0 from rfl, rword] at hw
      have HW2 := Lib.hid hw
      clear hw HW
      go_wp2_with fail
      try go_ret
      exact ⟨by rw [← HW2.out]; rfl, by rw [← HW2.out]; exact HS.out, HG.out⟩
end Go.Proofs.YtmpaaedccodjaaaDoor
