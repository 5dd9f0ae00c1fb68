/-
  The contract of strconv's inner ParseUint at base 16, 32 bits. Condition: 1 to 6 bytes.
-/
import Derived.Test.YtopfkelhgffomaaDoorHexBits
namespace Go.Proofs.YtopfkelhgffomaaDoor
open Go.RowKit Gx
set_option maxRecDepth 100000

def lowB (c : Nat) : Nat := c ||| 32
def LowPost (c : Nat) (w : World) (e : Ending) (w' : World) : Prop := e = .returned (.int .u8 (lowB c : Nat)) ∧ w = w'
theorem low_bits (c : Nat) (h : c < 256) : bits BinOp.or IntKind.u8 (c : Int) 32 = ((lowB c : Nat) : Int) := by
  have key : ∀ e : Fin 256, bits BinOp.or IntKind.u8 ((e.val : Nat) : Int) 32 = ((lowB e.val : Nat) : Int) := by decide +kernel
  exact key ⟨c, h⟩
set_option maxHeartbeats 400000 in
theorem low_any (c : Nat) (h : c < 256) (w : World) : Calls Tryd.prog 63 #[.int .u8 c] w (LowPost c w) := by
  have hl := low_bits c h
  have HL := Lib.hid hl
  clear hl
  go_enter Tryd.func63, Tryd.ntmps63
  go_wp2
  go_ret
  exact ⟨by rw [← HL.out]; rfl, rfl⟩
/-- of which kind a byte is -/
theorem hex_kind (c : UInt8) : (48 ≤ c.toNat ∧ c.toNat ≤ 57 ∧ hexOf c = some (c.toNat - 48)) ∨ ((c.toNat < 48 ∨ 57 < c.toNat) ∧ c.toNat ≠ 95 ∧ 97 ≤ lowB c.toNat ∧ lowB c.toNat ≤ 102 ∧ hexOf c = some (lowB c.toNat - 87)) ∨
    ((c.toNat < 48 ∨ 57 < c.toNat) ∧ 103 ≤ lowB c.toNat ∧ lowB c.toNat ≤ 122 ∧ hexOf c = none) ∨ ((c.toNat < 48 ∨ 57 < c.toNat) ∧ (lowB c.toNat < 97 ∨ 122 < lowB c.toNat) ∧ hexOf c = none) := by
  have key : ∀ e : Fin 256, (48 ≤ (UInt8.ofNat e.val).toNat ∧ (UInt8.ofNat e.val).toNat ≤ 57 ∧ hexOf (UInt8.ofNat e.val) = some ((UInt8.ofNat e.val).toNat - 48)) ∨ (((UInt8.ofNat e.val).toNat < 48 ∨ 57 < (UInt8.ofNat e.val).toNat) ∧ (UInt8.ofNat e.val).toNat ≠ 95 ∧ 97 ≤ lowB (UInt8.ofNat e.val).toNat ∧ lowB (UInt8.ofNat e.val).toNat ≤ 102 ∧ hexOf (UInt8.ofNat e.val) = some (lowB (UInt8.ofNat e.val).toNat - 87)) ∨
    (((UInt8.ofNat e.val).toNat < 48 ∨ 57 < (UInt8.ofNat e.val).toNat) ∧ 103 ≤ lowB (UInt8.ofNat e.val).toNat ∧ lowB (UInt8.ofNat e.val).toNat ≤ 122 ∧ hexOf (UInt8.ofNat e.val) = none) ∨ (((UInt8.ofNat e.val).toNat < 48 ∨ 57 < (UInt8.ofNat e.val).toNat) ∧ (lowB (UInt8.ofNat e.val).toNat < 97 ∨ 122 < lowB (UInt8.ofNat e.val).toNat) ∧ hexOf (UInt8.ofNat e.val) = none) := by decide +kernel
  have h := key ⟨c.toNat, UInt8.toNat_lt c⟩
  have e : UInt8.ofNat c.toNat = c := by simp
  rw [e] at h
  exact h

def ParseUPost (l : List UInt8) (w : World) (e : Ending) (w' : World) : Prop :=
  (∃ v : Nat, hexVal l 0 = some v ∧ e = .returned (.tuple #[.int .u64 v, .nilIface]) ∧ Below w.heap.size w w') ∨
  (hexVal l 0 = none ∧ e = .returned (.tuple #[.int .u64 0, .iface 75 (.int .i64 2)]) ∧ Below w.heap.size w w')
theorem pow16_le (k : Nat) (hk : k ≤ 5) : 16 ^ k ≤ 1048576 := Nat.pow_le_pow_right (show 16 > 0 by decide) hk
theorem hexVal_step (l : List UInt8) (k : Nat) (v : Nat) (hk : k < l.length) : hexVal (l.drop k) v = match hexOf l[k] with
    | none => none
    | some d => hexVal (l.drop (k + 1)) (v * 16 + d) := by
  rw [List.drop_eq_getElem_cons hk, hexVal]
  cases hexOf l[k] <;> rfl

set_option maxHeartbeats 4000000 in
theorem parseU_any (s : ByteArray) (w : World) (h1 : 1 ≤ s.size) (h6 : s.size ≤ 6) : Calls Tryd.prog 43 #[.string s, .int .i64 16, .int .i64 32] w (ParseUPost s.data.toList w) := by
  have hl := Lib.size_eq s
  obtain ⟨cap, w2, hconv, -, hsz2, hg, hC⟩ := Gx.conv_bytes_run (P := Tryd.prog) w 9 57 5 s Tryd.underlying9 Tryd.underlying57 Tryd.underlying5
  have hb2 : Below w.heap.size w w2 := Gx.grown_below hg (Nat.le_refl _) (by simp)
  have HYES := Lib.hid (fun (v : Nat) (h : hexVal s.data.toList 0 = some v) => (show ParseUPost s.data.toList w (.returned (.tuple #[.int .u64 v, .nilIface])) w2 from .inl ⟨v, h, rfl, hb2⟩))
  have HNO := Lib.hid (fun (h : hexVal s.data.toList 0 = none) => (show ParseUPost s.data.toList w (.returned (.tuple #[.int .u64 0, .iface 75 (.int .i64 2)])) w2 from .inr ⟨h, rfl, hb2⟩))
  generalize ParseUPost s.data.toList w = POST at *
  have hem : s.toList.isEmpty = false ∧ ¬ s.toList = [] := by
    have h3 : s.toList.length = s.size := by rw [Go.Lib.toList_data]; simp
    have : s.toList ≠ [] := by intro h4; rw [h4, List.length_nil] at h3; omega
    exact ⟨by cases h4 : s.toList with
      | nil => exact absurd h4 this
      | cons => rfl, this⟩
  obtain ⟨em1, em2⟩ := hem
  have HST := Lib.hid (fun k v (hk : k < s.data.toList.length) => hexVal_step s.data.toList k v hk)
  have hd0 : hexVal (s.data.toList.drop 0) 0 = hexVal s.data.toList 0 := by rw [List.drop_zero]
  have hend : ∀ k v, k = s.size → hexVal (s.data.toList.drop k) v = some v := by
    intro k v hk
    rw [List.drop_eq_nil_of_le (by omega)]; rfl
  generalize hexVal s.data.toList 0 = HV at *
  have HD0 := Lib.hid hd0
  have HEND := Lib.hid hend
  have HC := Lib.hid hC
  have HL := Lib.hid hl
  clear hd0 hend hC hg hsz2 hl hb2
  go_enter Tryd.func43, Tryd.ntmps43
  go_wp2_with fail
  clear hconv em1 em2
  go_loop [12, 13, 101] (fun uv nv iv => ∃ k v : Nat, uv = .bool false ∧ k ≤ s.size ∧ iv = .int .i64 k ∧ nv = .int .u64 v ∧ v < 16777216 ∧ Hid (v < 16 ^ k) ∧ Hid (hexVal (s.data.toList.drop k) v = HV)) (fun _ _ iv => s.size - (intOf iv).toNat)
  case atStart => exact ⟨0, 0, rfl, Nat.zero_le _, rfl, rfl, by decide, (by show (0 : Nat) < 16 ^ 0; decide), HD0.out⟩
  case round =>
    obtain ⟨k, v, rfl, hk, rfl, rfl, hv, hvk, hq⟩ := hrel
    by_cases hlt : k < s.size
    · have c0 := HC.out k hlt
      have hst := HST.out k v (by have := HL.out; omega)
      have hkk := hex_kind s.data[k]
      have hvb : v < 1048576 := Nat.lt_of_lt_of_le hvk.out (pow16_le k (by omega))
      rw [hq.out] at hst
      have hidx : s.data.toList[k]'(by have := HL.out; omega) = s.data[k] := rfl
      rw [hidx] at hst
      have hx256 := UInt8.toNat_lt s.data[k]
      have HLO := Lib.hid (fun w0 => low_any s.data[k].toNat hx256 w0)
      unfold LowPost at HLO
      obtain ⟨x, hx⟩ : ∃ x : Nat, x = s.data[k].toNat := ⟨_, rfl⟩
      rw [← hx] at c0 hkk HLO hx256
      obtain ⟨ho, hho⟩ : ∃ o, o = hexOf s.data[k] := ⟨_, rfl⟩
      rw [← hho] at hst hkk
      clear hx hho hidx
      have t95 : ∀ y : Nat, y ≠ 95 → ((y : Int) == 95) = false := fun y hy => by rw [beq_eq_false_iff_ne]; omega
      rcases hkk with ⟨a1, a2, rfl⟩ | ⟨a1, a95, a2, a3, rfl⟩ | ⟨a1, a2, a3, rfl⟩ | ⟨a1, a2, rfl⟩
      · have hst2 := Lib.hid hst.symm
        have hpk : Hid (v * 16 + (x - 48) < 16 ^ (k + 1)) := by
          show _ < _
          have := hvk.out
          rw [Nat.pow_succ]; omega
        obtain ⟨d, hd⟩ : ∃ d, d = x - 48 := ⟨_, rfl⟩
        rw [← hd] at hst2 hpk
        have tx := t95 x (by omega)
        obtain ⟨a3, a4⟩ : 48 ≤ (x : Int) ∧ (x : Int) ≤ 57 := by omega
        have HD := Lib.hid hd
        have tc : decide ((1152921504606846976 : Int) ≤ (v : Int)) = false := decide_eq_false (by omega)
        clear hst hq hvk t95 hd HLO
        go_wp2_with fail
        go_round
        case rel => exact ⟨k + 1, v * 16 + d, rfl, by omega, by go_num, by have := HD.out; congr 1; omega, by have := HD.out; omega, hpk, hst2.out⟩
        case measure => simp [intOf]; omega
      · have hst2 := Lib.hid hst.symm
        have hpk : Hid (v * 16 + (lowB x - 87) < 16 ^ (k + 1)) := by
          show _ < _
          have := hvk.out
          rw [Nat.pow_succ]; omega
        generalize lowB x = y at *
        obtain ⟨d, hd⟩ : ∃ d, d = y - 87 := ⟨_, rfl⟩
        rw [← hd] at hst2 hpk
        have tx := t95 x (by omega)
        obtain ⟨a4, a5⟩ : 97 ≤ (y : Int) ∧ (y : Int) ≤ 102 := by omega
        have HD := Lib.hid hd
        have tc : decide ((1152921504606846976 : Int) ≤ (v : Int)) = false := decide_eq_false (by omega)
        clear hst hq hvk t95 hd
        rcases a1 with a1 | a1
        · have n1 : ¬ 48 ≤ (x : Int) := by omega
          go_wp2_with fail
          refine (HLO.out _).mono ?_
          rintro e0 w3 ⟨rfl, rfl⟩
          go_wp2_with fail
          refine (HLO.out _).mono ?_
          rintro e0 w3 ⟨rfl, rfl⟩
          go_wp2_with fail
          refine (HLO.out _).mono ?_
          rintro e0 w3 ⟨rfl, rfl⟩
          go_wp2_with fail
          go_round
          case rel => exact ⟨k + 1, v * 16 + d, rfl, by omega, by go_num, by have := HD.out; congr 1; omega, by have := HD.out; omega, hpk, hst2.out⟩
          case measure => simp [intOf]; omega
        · have n1 : ¬ (x : Int) ≤ 57 := by omega
          have n2 : 48 ≤ (x : Int) := by omega
          go_wp2_with fail
          refine (HLO.out _).mono ?_
          rintro e0 w3 ⟨rfl, rfl⟩
          go_wp2_with fail
          refine (HLO.out _).mono ?_
          rintro e0 w3 ⟨rfl, rfl⟩
          go_wp2_with fail
          refine (HLO.out _).mono ?_
          rintro e0 w3 ⟨rfl, rfl⟩
          go_wp2_with fail
          go_round
          case rel => exact ⟨k + 1, v * 16 + d, rfl, by omega, by go_num, by have := HD.out; congr 1; omega, by have := HD.out; omega, hpk, hst2.out⟩
          case measure => simp [intOf]; omega
      · have N := Lib.hid (HNO.out hst)
        generalize lowB x = y at *
        have tx : ((x : Int) == 95) = false ∨ ((x : Int) == 95) = true := by cases ((x : Int) == 95); exact .inl rfl; exact .inr rfl
        obtain ⟨a4, a5⟩ : 103 ≤ (y : Int) ∧ (y : Int) ≤ 122 := by omega
        clear hst hq hvk t95
        rcases a1 with a1 | a1
        · have n1 : ¬ 48 ≤ (x : Int) := by omega
          rcases tx with tx | tx
          all_goals
            go_wp2_with fail
            refine (HLO.out _).mono ?_
            rintro e0 w3 ⟨rfl, rfl⟩
            go_wp2_with fail
            refine (HLO.out _).mono ?_
            rintro e0 w3 ⟨rfl, rfl⟩
            go_wp2_with fail
            refine (HLO.out _).mono ?_
            rintro e0 w3 ⟨rfl, rfl⟩
            go_wp2_with fail
            try go_ret2
            exact N.out
        · have n1 : ¬ (x : Int) ≤ 57 := by omega
          have n2 : 48 ≤ (x : Int) := by omega
          rcases tx with tx | tx
          all_goals
            go_wp2_with fail
            refine (HLO.out _).mono ?_
            rintro e0 w3 ⟨rfl, rfl⟩
            go_wp2_with fail
            refine (HLO.out _).mono ?_
            rintro e0 w3 ⟨rfl, rfl⟩
            go_wp2_with fail
            refine (HLO.out _).mono ?_
            rintro e0 w3 ⟨rfl, rfl⟩
            go_wp2_with fail
            try go_ret2
            exact N.out
      · have N := Lib.hid (HNO.out hst)
        generalize lowB x = y at *
        have tx : ((x : Int) == 95) = false ∨ ((x : Int) == 95) = true := by cases ((x : Int) == 95); exact .inl rfl; exact .inr rfl
        clear hst hq hvk t95
        have n0 : (¬ 48 ≤ (x : Int)) ∨ (48 ≤ (x : Int) ∧ ¬ (x : Int) ≤ 57) := by omega
        have y0 : (¬ 97 ≤ (y : Int)) ∨ (97 ≤ (y : Int) ∧ ¬ (y : Int) ≤ 122) := by omega
        clear a1 a2
        rcases n0 with n1 | ⟨n2, n1⟩ <;> rcases y0 with y1 | ⟨y2, y1⟩ <;> rcases tx with tx | tx
        all_goals
          go_wp2_with fail
          refine (HLO.out _).mono ?_
          rintro e0 w3 ⟨rfl, rfl⟩
          go_wp2_with fail
          try (refine (HLO.out _).mono ?_; rintro e0 w3 ⟨rfl, rfl⟩; go_wp2_with fail)
          try go_ret2
          exact N.out
    · have N := Lib.hid (HYES.out v (by rw [← hq.out]; exact HEND.out k v (by omega)))
      clear hq hvk
      go_wp2_with fail
      try go_ret2
      exact N.out
end Go.Proofs.YtopfkelhgffomaaDoor
