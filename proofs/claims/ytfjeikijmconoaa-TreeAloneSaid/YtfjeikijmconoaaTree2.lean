/-
  The contract of the tree reader's mark. Conditions: the reader lies where the argument says; at most 20000 tokens, each within the text.
-/
import Derived.Test.YtfjeikijmconoaaTree1
import Derived.Deep.WholeRow
namespace Go.Proofs.Ytfjeikijmconoaa
open Go.RowKit Gx
set_option maxRecDepth 100000

def MP (R : Nat) (ta : Option Addr) (tc : Nat) (S : ByteArray) (X : TS) (s : PS) (w : World) (e : Ending) (w' : World) : Prop :=
  e = .returned (.int .u8 (((s.skip X).mark X).toNat : Int)) ∧ RS w' R ta tc S X (s.skip X) ∧ w.grownBy w' (some R)
theorem skip_i (X : TS) (s : PS) : (s.skip X).i ≤ s.i + X.T.length := by
  have h : ∀ L : List (Int × Nat × Nat), skipN L ≤ L.length := by
    intro L
    induction L with
    | nil => exact Nat.le_refl _
    | cons t L ih => unfold skipN; split <;> simp <;> omega
  have := h (X.T.drop s.i)
  rw [List.length_drop] at this
  show s.i + skipN (X.T.drop s.i) ≤ _
  omega
set_option maxHeartbeats 8000000 in
theorem mark_any (R : Nat) (ta : Option Addr) (tc : Nat) (S : ByteArray) (X : TS) (s : PS) (w : World) (h : RS w R ta tc S X s) (hT : X.T.length ≤ 20000) (hi : s.i ≤ 100000) (hpos : ∀ j, j < X.T.length → X.pos j < X.l.length) :
    Calls Try.prog 25 #[.pointer (some ⟨R, 0, none⟩)] w (MP R ta tc S X s w) := by
  have H := Lib.hid (skip_any R ta tc S X s w h hT hi)
  unfold RP at H
  have hsk := skip_i X s
  have hstr := h.str
  clear h
  unfold MP
  generalize s.skip X = u at H hsk ⊢
  have hmk : ∀ k : Nat, u.i = k → X.kind k ≠ 6 → u.mark X = 0 := fun k e h6 => by unfold PS.mark; rw [e, if_neg h6]
  have HM := Lib.hid hmk
  have hmy : ∀ k : Nat, u.i = k → X.kind k = 6 → u.mark X = X.l.getD (X.pos k) 0 := fun k e h6 => by unfold PS.mark; rw [e, if_pos h6]
  have HY := Lib.hid hmy
  clear hmk hmy
  by_cases hlt : u.i < X.T.length
  · have hp := hpos u.i hlt
    have hb : ∃ hh : X.pos u.i < S.size, S[X.pos u.i]'hh = X.l.getD (X.pos u.i) 0 := by
      have hsz : S.size = X.l.length := by rw [Lib.size_eq, hstr]
      refine ⟨by omega, ?_⟩
      have h1 := Lib.data_getElem? S (X.pos u.i) (by omega)
      rw [hstr] at h1
      rw [List.getD, h1]; rfl
    obtain ⟨hps, hbyte⟩ := hb
    have t1 : decide ((u.i : Int) < (X.T.length : Int)) = true := decide_eq_true (by omega)
    have hi1 : (0 : Int) ≤ (u.i : Int) := by omega
    have hi2 : (u.i : Int) < (X.T.length : Int) := by omega
    have hkn : (u.i : Int).toNat = u.i := rfl
    have hj1 : (0 : Int) ≤ (X.pos u.i : Int) := by omega
    have hj2 : (X.pos u.i : Int) < (S.size : Int) := by omega
    have hjn : (X.pos u.i : Int).toNat = X.pos u.i := rfl
    by_cases h6 : X.kind u.i = 6
    · have hm := HY.out u.i rfl h6
      rw [← hbyte] at hm
      have HMK := Lib.hid hm
      clear hm hbyte hp hpos hstr hsk hi
      go_enter Try.func25, Try.ntmps25
      go_wp2_with fail
      refine H.out.mono ?_
      rintro e w2 ⟨rfl, hr, hg⟩
      obtain ⟨b, rfl, d0, d1⟩ := hr.tok3 u.i hlt
      obtain ⟨c0, c1, c2, c3, c4, fz⟩ := hr.cells
      rw [h6] at d0
      have HR := Lib.hid hr
      have HG := Lib.hid hg
      clear hr hg
      go_wp2_with fail
      go_quiet (fail)
      go_wp2_with fail
      go_quiet (fail)
      go_wp2_with fail
      try go_ret
      rw [HMK.out]
      exact ⟨rfl, (HR.out.drewN _).drewN _, (HG.out.trans (grown_drew _ _ _)).trans (grown_drew _ _ _)⟩
    · have t6 : (X.kind u.i == 6) = false := by simpa using h6
      have hm := HM.out u.i rfl h6
      have HMK := Lib.hid hm
      clear hm hbyte hp hpos hstr hsk hi h6
      obtain ⟨kd, hkd⟩ : ∃ kd, kd = X.kind u.i := ⟨_, rfl⟩
      rw [← hkd] at t6
      go_enter Try.func25, Try.ntmps25
      go_wp2_with fail
      refine H.out.mono ?_
      rintro e w2 ⟨rfl, hr, hg⟩
      obtain ⟨b, rfl, d0, d1⟩ := hr.tok3 u.i hlt
      obtain ⟨c0, c1, c2, c3, c4, fz⟩ := hr.cells
      rw [← hkd] at d0
      have HR := Lib.hid hr
      have HG := Lib.hid hg
      clear hr hg hkd
      go_wp2_with fail
      go_quiet (fail)
      go_wp2_with fail
      try go_ret
      rw [HMK.out]
      exact ⟨rfl, (HR.out.drewN _), HG.out.trans (grown_drew _ _ _)⟩
  · have t1 : decide ((u.i : Int) < (X.T.length : Int)) = false := decide_eq_false (by omega)
    have hk0 : X.kind u.i = 0 := by unfold TS.kind; rw [List.getElem?_eq_none (by omega)]
    have HMK := Lib.hid (HM.out u.i rfl (by rw [hk0]; decide))
    clear hpos hstr hsk hi hk0
    go_enter Try.func25, Try.ntmps25
    go_wp2_with fail
    refine H.out.mono ?_
    rintro e w2 ⟨rfl, hr, hg⟩
    obtain ⟨c0, c1, c2, c3, c4, fz⟩ := hr.cells
    have HR := Lib.hid hr
    have HG := Lib.hid hg
    clear hr hg
    go_wp2_with fail
    go_quiet (fail)
    go_wp2_with fail
    try go_ret
    rw [HMK.out]
    exact ⟨rfl, (HR.out.drewN _), HG.out.trans (grown_drew _ _ _)⟩
end Go.Proofs.Ytfjeikijmconoaa
