/-
  The contract of strings.IndexRune of the text ".[" at a rune that is no byte below 128. No conditions.
-/
import Derived.Test.YtopfkelhgffomaaDoorStepRow
import Derived.Test.YtopfkelhgffomaaDoorQuote
import Derived.WalkMore
import Derived.Laws.RangeString
import Derived.Laws.Runes
import Derived.Laws.Strings3
import Derived.Deep.LoopGhost
import Derived.Lib.IndexAny
namespace Go.Proofs.YtopfkelhgffomaaDoor
open Go.RowKit Gx
set_option maxRecDepth 100000

def NegP (w : World) (e : Ending) (w' : World) : Prop := e = .returned (.int .i64 (-1)) ∧ Below w.heap.size w w'
set_option maxHeartbeats 4000000 in
theorem irune_bad (w : World) : Calls Tryd.prog 33 #[.string ⟨#[46, 91]⟩, .int .i32 65533] w (NegP w) := by
  go_enter Tryd.func33, Tryd.ntmps33
  go_wp2_with fail
  go_loopg [5, 6] 2 (fun g _ _ wx => ∃ i : Nat, i + g = 2 ∧ wx = w.iter ⟨#[46, 91]⟩ i)
  case atStart => exact ⟨0, by omega, rfl⟩
  case round =>
    obtain ⟨i, hig, rfl⟩ := hrel
    match gk, hig with
    | 0, hig =>
      obtain rfl : i = 2 := by omega
      have hnx := run_next_end (P := Tryd.prog) w ⟨#[46, 91]⟩ 2
      go_wp2_with fail
      try go_ret
      exact ⟨rfl, (Below.refl _ _).alloc (Nat.le_refl _) _⟩
    | 1, hig =>
      obtain rfl : i = 1 := by omega
      have hnx := fun ty => run_next_ascii (P := Tryd.prog) w ⟨#[46, 91]⟩ 1 ty (by decide) (by decide)
      go_wp2_with fail
      go_roundg 0
      case measure => omega
      case rel => exact ⟨2, by omega, rfl⟩
    | 2, hig =>
      obtain rfl : i = 0 := by omega
      have hnx := fun ty => run_next_ascii (P := Tryd.prog) w ⟨#[46, 91]⟩ 0 ty (by decide) (by decide)
      go_wp2_with fail
      go_roundg 1
      case measure => omega
      case rel => exact ⟨1, by omega, rfl⟩
    | g + 3, hig => omega

set_option maxHeartbeats 4000000 in
theorem irune_far (r : Int) (h0 : 128 ≤ r) (h1 : r ≤ 1114111) (h2 : r < 55296 ∨ 57343 < r) (hne : r ≠ 65533) (w : World) : Calls Tryd.prog 33 #[.string ⟨#[46, 91]⟩, .int .i32 r] w (NegP w) := by
  have hV := Lib.hid (Tryd.utf8_ValidRune r w)
  have hv : Lib.validRune r = true := by simp [Lib.validRune]; omega
  rw [hv] at hV
  have t1 : decide (r < 128) = false := decide_eq_false (by omega)
  have t2 : (r == 65533) = false := by rw [beq_eq_false_iff_ne]; exact hne
  have hu : Utf8.valid r = true := by simp [Utf8.valid]; omega
  obtain ⟨f1, f2, f3⟩ := encode_facts r hu h0
  have h00 : decide ((0 : Int) ≤ r) = true := decide_eq_true (by omega)
  obtain ⟨S, hS⟩ : ∃ S, S = Utf8.encode r := ⟨_, rfl⟩
  have hc : ∀ w0, (convert 21 9 (.int .i32 r)).run Tryd.prog w0 = .ok (.string S) w0 := fun w0 => by
    rw [hS]; exact run_convert_int_string w0 _ _ _ _ (by kernel_rfl) Tryd.underlying9
  rw [← hS] at f1 f2 f3
  clear hv hu h2 hne hS
  have hI : ∀ (c : Int) w0, Calls Tryd.prog 48 #[.string ⟨#[]⟩, .int .u8 c] w0 fun e w' => e = .returned (.int .i64 (-1)) ∧ w' = w0 := fun c w0 => by
    have := Tryd.strings_IndexByte ⟨#[]⟩ c w0
    rw [show Lib.indexByte (⟨#[]⟩ : ByteArray).data.toList c.toNat.toUInt8 = -1 from by simp [Lib.indexByte]] at this
    exact this
  have HI := Lib.hid hI
  clear hI
  by_cases h3 : 3 ≤ S.size
  · have t3 : decide (((S.size : Int) - 1) < 2) = false := decide_eq_false (by omega)
    clear f3
    go_enter Tryd.func33, Tryd.ntmps33
    go_wp2_with fail
    refine hV.out.mono ?_
    rintro e0 w1 ⟨rfl, rfl⟩
    go_wp2_with fail
    go_step3
    go_wp2_with fail
    refine wp_loop_rounds 1 ?_
    rw [rounds_succ]
    go_wp2_with fail
    try go_ret
    exact ⟨rfl, Below.refl _ _⟩
  · have h22 : S.size = 2 := by omega
    have f4 : 128 ≤ (S[1]'(by omega)).toNat := by
      have := f3 (by omega)
      simpa [h22] using this
    have f5 : ((((⟨#[46, 91]⟩ : ByteArray)[1]'(by decide)).toNat : Int) != ((S[1]'(by omega)).toNat : Int)) = true := by
      rw [show (((⟨#[46, 91]⟩ : ByteArray)[1]'(by decide)).toNat : Int) = 91 from rfl]
      simp; omega
    have s1 : (1 : Int) < (S.size : Int) := by omega
    have e1 : (S.size : Int) = 2 := by omega
    have ew2 : IntKind.i64.wrap 2 = 2 := by decide
    clear f3
    go_enter Tryd.func33, Tryd.ntmps33
    go_wp2_with fail
    refine hV.out.mono ?_
    rintro e0 w1 ⟨rfl, rfl⟩
    go_wp2_with fail
    go_step3
    go_wp2_with fail
    refine wp_loop_rounds 1 ?_
    rw [rounds_succ]
    go_wp2_with fail
    go_step3
    go_wp2_with fail
    go_quiet (fail)
    go_wp2_with fail
    go_quiet ((refine (HI.out _ _).mono ?_; rintro e w' ⟨rfl, rfl⟩; exact ⟨rfl, _, rfl⟩))
    go_wp2_with fail
    try go_ret
    exact ⟨rfl, Gx.drewN_below _ _ _⟩
end Go.Proofs.YtopfkelhgffomaaDoor
