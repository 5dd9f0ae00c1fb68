/-
  The contract of num.Read. No conditions.
-/
import Derived.Test.YtpoagjiknmahiaaDoorNumLaw
import Derived.Laws.Externs
namespace Go.Proofs.YtpoagjiknmahiaaDoor
open Go.RowKit Gx

def ReadPost (r : Int × Int) (w : World) (e : Ending) (w' : World) : Prop := e = .returned (.tuple #[.int .i64 r.1, .int .i64 r.2]) ∧ Below w.heap.size w w'

theorem baseOf_le (l : List UInt8) : (baseOf l).1 ≤ 16 ∧ 2 ≤ (baseOf l).1 ∧ (baseOf l).2.length ≤ l.length := by
  have h : ∀ p, (Lib.trimPrefix l p).length ≤ l.length := by
    intro p
    unfold Lib.trimPrefix
    split
    · simp
    · exact Nat.le_refl _
  unfold baseOf
  split
  · exact ⟨by simp, by simp, h _⟩
  · split
    · exact ⟨by simp, by simp, h _⟩
    · split
      · exact ⟨by simp, by simp, h _⟩
      · exact ⟨by simp, by simp, Nat.le_refl _⟩

theorem byte0 (R : ByteArray) (h : 0 < R.size) : R[0]'h = R.data.toList.getD 0 0 := by
  have h2 : 0 < R.data.size := h
  show R.data[0] = _
  simp [List.getD, Array.getElem?_eq_getElem h2]

theorem ints_drop (R : ByteArray) (r : List UInt8) (hr : R.data.toList = r) (k : Nat) (hk : k < R.data.size) : (ints r).drop k = ((R.data[k].toNat : Nat) : Int) :: (ints r).drop (k + 1) := by
  subst hr
  unfold ints
  rw [List.drop_eq_getElem_cons (by simpa using hk)]
  simp

theorem add64_run (x y : Int) (hx : 0 ≤ x) (hy : 0 ≤ y) (w : World) :
    (callFunc 16 #[.int .u64 x, .int .u64 y, .int .u64 0]).run Tryd.prog w =
      .ok (.value (.tuple #[.int .u64 ((x + y + 0) % 18446744073709551616), .int .u64 ((x + y + 0) / 18446744073709551616)])) w := by
  rw [run_callFunc_extern Tryd.func16 (by kernel_rfl) (by kernel_rfl) (by kernel_rfl) (e := add64Entry) (by kernel_rfl), run_add64 x y 0 hx hy (by omega) (by omega)]
  rfl

set_option maxRecDepth 4000 in
set_option maxHeartbeats 4000000 in
theorem read_any (s : ByteArray) (w : World) : Calls Tryd.prog 7 #[.string s] w (ReadPost (readOf s.data.toList) w) := by
  by_cases h80 : 80 < s.size
  · have e : readOf s.data.toList = (0, 2) := by unfold readOf; rw [if_pos (by rw [← Lib.size_eq]; exact h80)]
    have E := Lib.hid e
    clear e
    go_enter Tryd.func7, Tryd.ntmps7
    go_wp2
    go_ret2
    exact ⟨by rw [E.out]; rfl, Below.refl _ _⟩
  have h1 := Tryd.strings_CutPrefix s ⟨#[45]⟩ w
  obtain ⟨l, hl⟩ : ∃ l, l = s.data.toList := ⟨_, rfl⟩
  rw [← hl] at h1 ⊢
  have hll : l.length ≤ 80 := by rw [hl, ← Lib.size_eq]; omega
  have htl : (Lib.trimPrefix l [45]).length ≤ l.length := by
    unfold Lib.trimPrefix
    split
    · simp
    · exact Nat.le_refl _
  have e : readOf l = readBy (Lib.hasPrefix l [45]) (baseOf (Lib.trimPrefix l [45])).1 (baseOf (Lib.trimPrefix l [45])).2 := by
    unfold readOf; rw [if_neg (by omega)]
  obtain ⟨b16, b2, brl⟩ := baseOf_le (Lib.trimPrefix l [45])
  have hbase := fun w => base_any ⟨(Lib.trimPrefix l [45]).toArray⟩ w
  simp only [List.toList_toArray] at hbase
  obtain ⟨mi, hmi⟩ : ∃ m, m = Lib.hasPrefix l [45] := ⟨_, rfl⟩
  obtain ⟨R0, hR0⟩ : ∃ R : ByteArray, R = ⟨(Lib.trimPrefix l [45]).toArray⟩ := ⟨_, rfl⟩
  obtain ⟨b, hb⟩ : ∃ b, b = (baseOf (Lib.trimPrefix l [45])).1 := ⟨_, rfl⟩
  obtain ⟨r, hr⟩ : ∃ r, r = (baseOf (Lib.trimPrefix l [45])).2 := ⟨_, rfl⟩
  have h1' : Calls Tryd.prog 12 #[.string s, .string ⟨#[45]⟩] w fun e w' => e = .returned (.tuple #[.string R0, .bool mi]) ∧ w' = w := by
    rw [hR0, hmi]; exact h1
  have hbase' : ∀ w, Calls Tryd.prog 13 #[.string R0] w fun e w' => e = .returned (.tuple #[.int .u64 (b : Nat), .string ⟨r.toArray⟩]) ∧ Below w.heap.size w w' := by
    intro w
    have := hbase w
    unfold BasePost at this
    rw [← hR0, ← hb, ← hr] at this
    exact this
  rw [← hmi, ← hb, ← hr] at e
  rw [← hb] at b16 b2
  rw [← hr] at brl
  have hrl : r.length ≤ 80 := by omega
  have E := Lib.hid e
  have H1 := Lib.hid h1'
  have HB := Lib.hid hbase'
  clear h1 hbase h1' hbase' e hmi hR0 hb hr htl brl hll hl
  obtain ⟨R, hR⟩ : ∃ R : ByteArray, R = ⟨r.toArray⟩ := ⟨_, rfl⟩
  have hRl : R.data.toList = r := by rw [hR]
  have hRs : R.size = r.length := by rw [Lib.size_eq, hRl]
  rw [← hR] at HB
  have hR80 : R.size ≤ 80 := by omega
  have HRL := Lib.hid hRl
  have HRS := Lib.hid hRs
  clear hRl hRs hR hrl
  rw [E.out]
  go_enter Tryd.func7, Tryd.ntmps7
  go_wp2_with fail
  refine H1.out.mono ?_
  rintro e w' ⟨rfl, rfl⟩
  go_wp2_with fail
  refine (HB.out w').mono ?_
  rintro e w1 ⟨rfl, hb1⟩
  by_cases hz : b = 10 ∧ 1 < r.length ∧ r.getD 0 0 = 48
  · have e2 : readBy mi b r = (0, 4) := by unfold readBy; rw [if_pos hz]
    obtain ⟨rfl, z1, z2⟩ := hz
    have hpos : 0 < R.size := by have := HRS.out; omega
    have z3 : (1 : Int) < (R.size : Int) := by have := HRS.out; omega
    have z4 : (((R[0]'hpos).toNat : Int) == 48) = true := by
      rw [byte0 R hpos, HRL.out, z2]; rfl
    have E2 := Lib.hid e2
    clear e2 z1 z2
    go_wp2_with fail
    go_ret2
    exact ⟨by rw [E2.out]; rfl, hb1⟩
  · have e2 : readBy mi b r = readEnd mi (numLoop b (ints r) 95 0 0) := by unfold readBy; rw [if_neg hz]
    obtain ⟨Q, hQ⟩ : ∃ Q, Q = numLoop b (ints r) 95 0 0 := ⟨_, rfl⟩
    rw [← hQ] at e2
    have HQ := Lib.hid hQ
    have E2 := Lib.hid e2
    obtain ⟨cap, w2, hconv, -, -, hg, hC⟩ := Gx.conv_bytes_run (P := Tryd.prog) w1 9 39 5 R Tryd.underlying9 Tryd.underlying39 Tryd.underlying5
    have hb2 : Below w'.heap.size w' w2 := hb1.grown hg hb1.size (by simp)
    have HC := Lib.hid hC
    have hcase : (b = 10 ∧ ∃ h : 1 < R.size, (((R[0]'(by omega)).toNat : Int) == 48) = false) ∨ (b = 10 ∧ ¬ (1 < R.size)) ∨ ¬ (b = 10) := by
      by_cases c1 : b = 10
      · by_cases c2 : 1 < R.size
        · left
          refine ⟨c1, c2, ?_⟩
          rw [byte0 R (by omega), HRL.out]
          cases c3 : ((((r.getD 0 0).toNat : Nat) : Int) == 48) with
          | false => rfl
          | true =>
            exfalso
            refine hz ⟨c1, by rw [← HRS.out]; exact c2, ?_⟩
            apply UInt8.toNat_inj.1
            have c4 : (((r.getD 0 0).toNat : Nat) : Int) = 48 := by simpa using c3
            show (r.getD 0 0).toNat = 48
            omega
        · exact .inr (.inl ⟨c1, c2⟩)
      · exact .inr (.inr c1)
    clear e2 hz hQ hg hC hb1
    have hcase2 : (∃ h : 1 < R.size, ((b : Int) == 10) = true ∧ (((R[0]'(by omega)).toNat : Int) == 48) = false) ∨ (((b : Int) == 10) = true ∧ ¬ (1 < R.size)) ∨ ((b : Int) == 10) = false := by
      rcases hcase with ⟨c1, z1, z2⟩ | ⟨c1, z1⟩ | z1
      · exact .inl ⟨z1, by rw [c1]; rfl, z2⟩
      · exact .inr (.inl ⟨by rw [c1]; rfl, z1⟩)
      · exact .inr (.inr (by simp; omega))
    clear hcase
    rcases hcase2 with ⟨z1, z2, z3⟩ | ⟨z1, z2⟩ | z1
    all_goals
      go_wp2_with fail
      clear hconv
      go_loop [7, 8, 9, 45] (fun nv ov yv iv => ∃ (k n : Nat) (o y : Int), nv = .int .u64 n ∧ ov = .int .u64 o ∧ yv = .int .u8 y ∧ iv = .int .i64 k ∧ k ≤ R.size ∧ n < 18446744073709551616 ∧ 0 ≤ y ∧ y < 256 ∧ Hid (numLoop b ((ints r).drop k) y n o = Q))
        (fun _ _ _ iv => R.size - (intOf iv).toNat)
      case atStart => exact ⟨0, 0, 0, 95, rfl, rfl, rfl, rfl, Nat.zero_le _, by decide, by decide, by decide, by rw [List.drop_zero]; exact HQ.out.symm⟩
      case round =>
        obtain ⟨k, n, o, y, rfl, rfl, rfl, rfl, hk, hn, hy0, hy1, hq⟩ := hrel
        by_cases hkl : k < R.size
        · have hkd : k < R.data.size := hkl
          have hcell := HC.out k hkd
          have hkr : k < (ints r).length := by unfold ints; rw [List.length_map, ← HRS.out]; exact hkl
          have hdrop := ints_drop R r HRL.out k hkd
          have hxlt := UInt8.toNat_lt (R.data[k])
          obtain ⟨x, hx⟩ : ∃ x : Nat, x = R.data[k].toNat := ⟨_, rfl⟩
          rw [← hx] at hcell hdrop hxlt
          have hst := hq.out
          rw [hdrop, numLoop] at hst
          clear hdrop hx hkr
          have HD := Lib.hid (fun w => digit_any (x : Int) w (by omega) (by omega))
          unfold DigitPost at HD
          have hdl := digitOf_le (x : Int)
          obtain ⟨d, hd⟩ : ∃ d, d = digitOf (x : Int) := ⟨_, rfl⟩
          rw [← hd] at HD hst hdl
          clear hd
          obtain ⟨hd0, hd99⟩ := hdl
          by_cases hx95 : x = 95
          · subst hx95
            by_cases hy95 : y = 95
            · subst hy95
              have hQ : Q = none := by rw [← hst]; rfl
              have HQQ := Lib.hid hQ
              clear hst hQ
              go_wp2_with fail
              go_ret2
              exact ⟨by rw [E2.out, HQQ.out]; rfl, hb2⟩
            · have hq2 : Hid (numLoop b ((ints r).drop (k + 1)) 95 n o = Q) := by
                show _ = _
                rw [← hst, if_pos (show ((95 : Nat) : Int) = 95 from rfl), if_neg hy95]
              have hyb : (y == 95) = false := by simpa using hy95
              clear hst
              go_wp2_with fail
              go_round
              case rel => exact ⟨k + 1, n, o, 95, rfl, rfl, rfl, by go_num, hkl, hn, by decide, by decide, hq2⟩
              case measure => simp [intOf]; omega
          · have hxb : ((x : Int) == 95) = false := by simp; omega
            rw [if_neg (show ¬ ((x : Int) = 95) by omega)] at hst
            by_cases hdb : (b : Int) ≤ d
            · have hQ : Q = none := by rw [← hst, if_pos hdb]
              have HQQ := Lib.hid hQ
              have hdbd : decide ((b : Int) ≤ d) = true := decide_eq_true hdb
              clear hst hQ
              go_wp2_with fail
              refine (HD.out _).mono ?_
              rintro e v1 ⟨rfl, rfl⟩
              go_wp2_with fail
              go_ret2
              exact ⟨by rw [E2.out, HQQ.out]; rfl, hb2⟩
            · have hdbd : decide ((b : Int) ≤ d) = false := decide_eq_false hdb
              rw [if_neg hdb] at hst
              have hst2 : numLoop b ((ints r).drop (k + 1)) x (numStep b n o d).1 (numStep b n o d).2 = Q := hst
              have hnl := numStep_lt b n o d
              unfold numStep at hst2 hnl
              have hm := fun w => Tryd.bits_Mul64 n b hn (by omega) w
              obtain ⟨lo, hlo⟩ : ∃ lo, lo = n * b % 18446744073709551616 := ⟨_, rfl⟩
              obtain ⟨hi, hhi⟩ : ∃ hi, hi = n * b / 18446744073709551616 := ⟨_, rfl⟩
              simp only [← hlo, ← hhi] at hm hst2 hnl
              have hadd := add64_run (lo : Int) d (by omega) hd0
              obtain ⟨S, hS⟩ : ∃ S : Nat, (S : Int) = ((lo : Int) + d + 0) % 18446744073709551616 := ⟨(((lo : Int) + d + 0) % 18446744073709551616).toNat, by omega⟩
              obtain ⟨cy, hcy⟩ : ∃ cy, cy = ((lo : Int) + d + 0) / 18446744073709551616 := ⟨_, rfl⟩
              rw [← hS, Int.toNat_natCast] at hst2 hnl
              rw [← hcy] at hst2
              rw [← hS, ← hcy] at hadd
              have HM := Lib.hid hm
              have HST := Lib.hid hst2
              have hAdd := hadd
              clear hlo hhi hm hst2 hadd hS hcy
              clear hst
              go_wp2_with fail
              refine (HD.out _).mono ?_
              rintro e v1 ⟨rfl, rfl⟩
              go_wp2_with fail
              refine (HM.out _).mono ?_
              rintro e v1 ⟨rfl, rfl⟩
              go_wp2_with fail
              refine (HD.out _).mono ?_
              rintro e v1 ⟨rfl, rfl⟩
              go_wp2_with fail
              go_round
              case rel => exact ⟨k + 1, S, _, x, rfl, rfl, rfl, by go_num, hkl, hnl, by omega, by omega, HST⟩
              case measure => simp [intOf]; omega
        · have hk2 : k = R.size := by omega
          have hnil : (ints r).drop k = [] := by
            refine List.drop_eq_nil_of_le ?_
            unfold ints
            rw [List.length_map, ← HRS.out, hk2]; exact Nat.le_refl _
          have hQ := hq.out
          rw [hnil, numLoop] at hQ
          have HQQ := Lib.hid hQ
          clear hnil hQ
          subst hk2
          by_cases hy95 : y = 95
          · subst hy95
            have hE : readEnd mi Q = (0, 4) := by rw [← HQQ.out]; rfl
            have HE := Lib.hid hE
            clear hE
            cases mi with
            | true =>
              go_wp2_with fail
              go_ret2
              exact ⟨by rw [E2.out, HE.out]; rfl, hb2⟩
            | false =>
              go_wp2_with fail
              go_ret2
              exact ⟨by rw [E2.out, HE.out]; rfl, hb2⟩
          · have hyb : (y == 95) = false := by simpa using hy95
            by_cases ho : 0 < o
            · have hE : readEnd mi Q = (0, 7) := by rw [← HQQ.out]; unfold readEnd; simp only; rw [if_neg hy95, if_pos (.inl ho)]
              have HE := Lib.hid hE
              have hod : decide (0 < o) = true := decide_eq_true ho
              clear hE
              cases mi with
              | true =>
                go_wp2_with fail
                go_ret2
                exact ⟨by rw [E2.out, HE.out]; rfl, hb2⟩
              | false =>
                go_wp2_with fail
                go_ret2
                exact ⟨by rw [E2.out, HE.out]; rfl, hb2⟩
            · have hod : decide (0 < o) = false := decide_eq_false ho
              cases mi with
              | true =>
                by_cases hlim : 9223372036854775808 < n
                · have hE : readEnd true Q = (0, 7) := by rw [← HQQ.out]; unfold readEnd; simp only; rw [if_neg hy95, if_pos (.inr hlim)]
                  have HE := Lib.hid hE
                  have hld : decide ((9223372036854775808 : Int) < (n : Int)) = true := decide_eq_true (by omega)
                  clear hE
                  go_wp2_with fail
                  go_ret2
                  exact ⟨by rw [E2.out, HE.out]; rfl, hb2⟩
                · have hE : readEnd true Q = (-(n : Int), 0) := by
                    rw [← HQQ.out]; unfold readEnd; simp only; rw [if_neg hy95, if_neg (by intro h; rcases h with h | h; exact ho h; exact hlim h)]; rfl
                  have HE := Lib.hid hE
                  have hld : decide ((9223372036854775808 : Int) < (n : Int)) = false := decide_eq_false (by omega)
                  have hcv : wrap64 (-wrap64 (n : Int)) = -(n : Int) := by unfold wrap64; omega
                  have HCV := Lib.hid hcv
                  clear hE hcv
                  go_wp2_with fail
                  go_ret2
                  refine ⟨?_, hb2⟩
                  rw [E2.out, HE.out]
                  show Ending.returned (Value.tuple #[Value.int .i64 (wrap64 (-wrap64 (n : Int))), Value.int .i64 0]) = _
                  rw [HCV.out]
              | false =>
                by_cases hlim : 9223372036854775807 < n
                · have hE : readEnd false Q = (0, 7) := by rw [← HQQ.out]; unfold readEnd; simp only; rw [if_neg hy95, if_pos (.inr hlim)]
                  have HE := Lib.hid hE
                  have hld : decide ((9223372036854775807 : Int) < (n : Int)) = true := decide_eq_true (by omega)
                  clear hE
                  go_wp2_with fail
                  go_ret2
                  exact ⟨by rw [E2.out, HE.out]; rfl, hb2⟩
                · have hE : readEnd false Q = ((n : Int), 0) := by
                    rw [← HQQ.out]; unfold readEnd; simp only; rw [if_neg hy95, if_neg (by intro h; rcases h with h | h; exact ho h; exact hlim h)]; rfl
                  have HE := Lib.hid hE
                  have hld : decide ((9223372036854775807 : Int) < (n : Int)) = false := decide_eq_false (by omega)
                  have hcv : IntKind.i64.wrap (n : Int) = (n : Int) := by rw [IntKind.wrap_i64]; omega
                  clear hE
                  go_wp2_with fail
                  go_ret2
                  exact ⟨by rw [E2.out, HE.out]; rfl, hb2⟩
end Go.Proofs.YtpoagjiknmahiaaDoor
