/-
  The contracts of cmp.Compare, cmp.Or, rank. No conditions.
-/
import Derived.Test.YtmpaaedccodjaaaDoorPackObj
import Derived.Test.YtmpaaedccodjaaaDoorPackLaw
import Derived.Test.YtmpaaedccodjaaaDoorXor
namespace Go.Proofs.YtmpaaedccodjaaaDoor
open Go.RowKit Gx
set_option maxRecDepth 100000

def sgn (x y : Int) : Int := if x < y then -1 else if y < x then 1 else 0
/-- texts, byte by byte -/
def sgnB (a b : ByteArray) : Int := if Op.bytesLess a.toList b.toList then -1 else if (Op.bytesLess a.toList b.toList || a.toList == b.toList) then 0 else 1
def CmpPost (c : Int) (w : World) (e : Ending) (w' : World) : Prop := e = .returned (.int .i64 c) ∧ w = w'
set_option maxHeartbeats 400000 in
theorem cmpInt_any (x y : Int) (w : World) : Calls Tryd.prog 19 #[.int .i64 x, .int .i64 y] w (CmpPost (sgn x y) w) := by
  by_cases h1 : x < y
  · have e : sgn x y = -1 := by unfold sgn; rw [if_pos h1]
    go_enter Tryd.func19, Tryd.ntmps19
    go_wp2
    go_ret
    exact ⟨by first | rfl | (rw [e]; rfl), rfl⟩
  by_cases h2 : y < x
  · have e : sgn x y = 1 := by unfold sgn; rw [if_neg h1, if_pos h2]
    go_enter Tryd.func19, Tryd.ntmps19
    go_wp2
    go_ret
    exact ⟨by first | rfl | (rw [e]; rfl), rfl⟩
  · have e : sgn x y = 0 := by unfold sgn; rw [if_neg h1, if_neg h2]
    go_enter Tryd.func19, Tryd.ntmps19
    go_wp2
    go_ret
    exact ⟨by first | rfl | (rw [e]; rfl), rfl⟩
set_option maxHeartbeats 400000 in
theorem cmpI64_any (x y : Int) (w : World) : Calls Tryd.prog 20 #[.int .i64 x, .int .i64 y] w (CmpPost (sgn x y) w) := by
  by_cases h1 : x < y
  · have e : sgn x y = -1 := by unfold sgn; rw [if_pos h1]
    go_enter Tryd.func20, Tryd.ntmps20
    go_wp2
    go_ret
    exact ⟨by first | rfl | (rw [e]; rfl), rfl⟩
  by_cases h2 : y < x
  · have e : sgn x y = 1 := by unfold sgn; rw [if_neg h1, if_pos h2]
    go_enter Tryd.func20, Tryd.ntmps20
    go_wp2
    go_ret
    exact ⟨by first | rfl | (rw [e]; rfl), rfl⟩
  · have e : sgn x y = 0 := by unfold sgn; rw [if_neg h1, if_neg h2]
    go_enter Tryd.func20, Tryd.ntmps20
    go_wp2
    go_ret
    exact ⟨by first | rfl | (rw [e]; rfl), rfl⟩
set_option maxHeartbeats 400000 in
theorem cmpU64_any (x y : Int) (w : World) : Calls Tryd.prog 21 #[.int .u64 x, .int .u64 y] w (CmpPost (sgn x y) w) := by
  by_cases h1 : x < y
  · have e : sgn x y = -1 := by unfold sgn; rw [if_pos h1]
    go_enter Tryd.func21, Tryd.ntmps21
    go_wp2
    go_ret
    exact ⟨by first | rfl | (rw [e]; rfl), rfl⟩
  by_cases h2 : y < x
  · have e : sgn x y = 1 := by unfold sgn; rw [if_neg h1, if_pos h2]
    go_enter Tryd.func21, Tryd.ntmps21
    go_wp2
    go_ret
    exact ⟨by first | rfl | (rw [e]; rfl), rfl⟩
  · have e : sgn x y = 0 := by unfold sgn; rw [if_neg h1, if_neg h2]
    go_enter Tryd.func21, Tryd.ntmps21
    go_wp2
    go_ret
    exact ⟨by first | rfl | (rw [e]; rfl), rfl⟩
set_option maxHeartbeats 1000000 in
theorem cmpStr_any (a b : ByteArray) (w : World) : Calls Tryd.prog 23 #[.string a, .string b] w (CmpPost (sgnB a b) w) := by
  obtain ⟨x, hx⟩ : ∃ x, Op.bytesLess a.toList b.toList = x := ⟨_, rfl⟩
  obtain ⟨y, hy⟩ : ∃ y, (a.toList == b.toList) = y := ⟨_, rfl⟩
  have e : sgnB a b = if x = true then -1 else if (x || y) = true then 0 else 1 := by unfold sgnB; rw [hx, hy]
  have E := Lib.hid e
  clear e
  cases x with
  | true =>
    go_enter Tryd.func23, Tryd.ntmps23
    go_wp2
    go_ret
    exact ⟨by rw [E.out]; rfl, rfl⟩
  | false =>
    cases y with
    | true =>
      go_enter Tryd.func23, Tryd.ntmps23
      go_wp2
      go_ret
      exact ⟨by rw [E.out]; rfl, rfl⟩
    | false =>
      go_enter Tryd.func23, Tryd.ntmps23
      go_wp2
      go_ret
      exact ⟨by rw [E.out]; rfl, rfl⟩
def RankPost (n : Int) (w : World) (e : Ending) (w' : World) : Prop := e = .returned (.int .u64 n) ∧ w = w'
theorem ior_top (f : Int) (h0 : 0 ≤ f) (h1 : f < 9223372036854775808) : bits .or .u64 f 9223372036854775808 = f + 9223372036854775808 := by
  obtain ⟨b, rfl⟩ : ∃ b : Nat, f = (b : Int) := ⟨f.toNat, by omega⟩
  have := u64_or_nat b 9223372036854775808 (by omega) (by omega)
  rw [show ((9223372036854775808 : Nat) : Int) = 9223372036854775808 from rfl] at this
  rw [this]
  have h2 : b ||| 9223372036854775808 = 9223372036854775808 + b := by
    have := Nat.two_pow_add_eq_or_of_lt (i := 63) (b := b) (by omega) 1
    rw [Nat.mul_one, show 2 ^ 63 = 9223372036854775808 from rfl] at this
    rw [Nat.or_comm]; exact this.symm
  rw [h2]; omega
set_option maxHeartbeats 1000000 in
theorem rank_any (f : Int) (w : World) (h0 : 0 ≤ f) (h1 : f ≤ 18446744073709551615) : Calls Tryd.prog 22 #[.int .u64 f] w (RankPost (fbits f) w) := by
  obtain ⟨N, hN⟩ : ∃ N, fbits f = N := ⟨_, rfl⟩
  rw [hN]
  by_cases hf : f < 9223372036854775808
  · have hb : bits .or .u64 f 9223372036854775808 = N := by rw [ior_top f h0 hf, ← hN]; unfold fbits; rw [if_pos hf]
    have t1 : (f / 9223372036854775808 == 1) = false := by simp; omega
    clear hN
    go_enter Tryd.func22, Tryd.ntmps22
    go_wp2
    go_ret
    exact ⟨rfl, rfl⟩
  · have hb : bits .xor .u64 IntKind.u64.max f = N := by rw [ixor_all f h0 h1, ← hN]; unfold fbits; rw [if_neg hf]
    have t1 : (f / 9223372036854775808 == 1) = true := by simp; omega
    clear hN
    go_enter Tryd.func22, Tryd.ntmps22
    go_wp2
    go_ret
    exact ⟨rfl, rfl⟩
/-- the first that is not nought -/
def orL : List Int → Int
  | [] => 0
  | x :: xs => if x ≠ 0 then x else orL xs
theorem orL_drop {zs : List Int} {k : Nat} {x : Int} (h : zs[k]? = some x) : orL (zs.drop k) = if x ≠ 0 then x else orL (zs.drop (k + 1)) := by
  obtain ⟨hl, hx⟩ := List.getElem?_eq_some_iff.1 h
  rw [List.drop_eq_getElem_cons hl, hx, orL]
set_option maxHeartbeats 2000000 in
theorem or_any (b : Nat) (c : Nat) (zs : List Int) (w : World) (hc : ∀ k x, zs[k]? = some x → w.cell? ⟨b, k, none⟩ = some (.int .i64 x)) (hl : zs.length ≤ 100) : Calls Tryd.prog 18 #[.slice (some ⟨b, 0, none⟩) zs.length c] w (CmpPost (orL zs) w) := by
  obtain ⟨n, hn⟩ : ∃ n, zs.length = n := ⟨_, rfl⟩
  rw [hn] at hl ⊢
  have HN := Lib.hid hn
  have HC := Lib.hid hc
  clear hn hc
  go_enter Tryd.func18, Tryd.ntmps18
  go_wp2
  go_loop [8] (fun i => ∃ k : Nat, k ≤ n ∧ i = .int .i64 k ∧ Hid (orL (zs.drop k) = orL zs)) (fun i => n - (intOf i).toNat)
  case atStart => exact ⟨0, Nat.zero_le _, rfl, rfl⟩
  case round =>
    obtain ⟨k, hk, rfl, hr⟩ := hrel
    by_cases hlt : k < n
    · obtain ⟨x, hx⟩ : ∃ x, zs[k]? = some x := ⟨_, List.getElem?_eq_getElem (by rw [HN.out]; exact hlt)⟩
      have hcx := HC.out k x hx
      have hd := orL_drop hx
      rw [hr.out] at hd
      have HD := Lib.hid hd
      clear hx hd
      by_cases h0 : x = 0
      · subst h0
        have HD2 : Hid (orL (zs.drop (k + 1)) = orL zs) := Lib.hid (by rw [HD.out]; rfl)
        go_wp2
        go_round
        case rel => exact ⟨k + 1, by omega, by go_num, HD2⟩
        case measure => simp [intOf]; omega
      · have t1 : (x != 0) = true := by simpa using h0
        have HD2 : Hid (orL zs = x) := Lib.hid (by rw [HD.out, if_pos h0])
        clear h0
        go_wp2
        go_ret
        exact ⟨by rw [HD2.out]; rfl, rfl⟩
    · obtain rfl : k = n := by omega
      have h0 : orL zs = 0 := by rw [← hr.out, List.drop_of_length_le (Nat.le_of_eq HN.out)]; rfl
      have H0 := Lib.hid h0
      clear h0
      go_wp2
      go_ret
      exact ⟨by rw [H0.out]; rfl, rfl⟩
end Go.Proofs.YtmpaaedccodjaaaDoor
