/-
  The contracts of cmp.Compare and slices.Compare at runes. No conditions.
-/
import Derived.Test.YtiklmgjacdoeoaaUtfLaw
namespace Go.Proofs.Ytiklmgjacdoeoaa
open Go.RowKit Gx

def sgn (x y : Int) : Int := if x < y then -1 else if y < x then 1 else 0
def CmpPost (c : Int) (w : World) (e : Ending) (w' : World) : Prop := e = .returned (.int .i64 c) ∧ w = w'

set_option maxHeartbeats 400000 in
theorem cmpRune_any (x y : Int) (w : World) : Calls Try.prog 24 #[.int .i32 x, .int .i32 y] w (CmpPost (sgn x y) w) := by
  by_cases h1 : x < y
  · have e : sgn x y = -1 := by unfold sgn; rw [if_pos h1]
    go_enter Try.func24, Try.ntmps24
    go_wp2
    go_ret
    exact ⟨by first | rfl | (rw [e]; rfl), rfl⟩
  by_cases h2 : y < x
  · have e : sgn x y = 1 := by unfold sgn; rw [if_neg h1, if_pos h2]
    go_enter Try.func24, Try.ntmps24
    go_wp2
    go_ret
    exact ⟨by first | rfl | (rw [e]; rfl), rfl⟩
  · have e : sgn x y = 0 := by unfold sgn; rw [if_neg h1, if_neg h2]
    go_enter Try.func24, Try.ntmps24
    go_wp2
    go_ret
    exact ⟨by first | rfl | (rw [e]; rfl), rfl⟩

theorem cmpInts_drop (xs ys : List Int) (k : Nat) (hx : k < xs.length) (hy : k < ys.length) :
    cmpInts (xs.drop k) (ys.drop k) = if xs.getD k 0 < ys.getD k 0 then -1 else if ys.getD k 0 < xs.getD k 0 then 1 else cmpInts (xs.drop (k + 1)) (ys.drop (k + 1)) := by
  rw [List.drop_eq_getElem_cons hx, List.drop_eq_getElem_cons hy, cmpInts]
  simp [List.getD, List.getElem?_eq_getElem hx, List.getElem?_eq_getElem hy]

set_option maxHeartbeats 1000000 in
theorem compare_any (ad bd : Option Addr) (ca cb : Nat) (xs ys : List Int) (w : World) (h : Rd .i32 w ad ca xs) (g : Rd .i32 w bd cb ys) :
    Calls Try.prog 12 #[.slice ad xs.length ca, .slice bd ys.length cb] w (CmpPost (cmpInts xs ys) w) := by
  have lx : xs.length ≤ 9223372036854775807 := by have := h.ncap; have := h.cap63; omega
  have H := Lib.hid h
  have G := Lib.hid g
  clear h g
  go_enter Try.func12, Try.ntmps12
  go_wp2
  go_loop [11] (fun i => ∃ k : Nat, k ≤ xs.length ∧ k ≤ ys.length ∧ i = .int .i64 k ∧ Hid (cmpInts (xs.drop k) (ys.drop k) = cmpInts xs ys))
    (fun i => xs.length - (intOf i).toNat)
  case atStart => exact ⟨0, Nat.zero_le _, Nat.zero_le _, rfl, rfl⟩
  case round =>
    obtain ⟨k, hk, hky, rfl, hr⟩ := hrel
    by_cases hx : k < xs.length
    · obtain ⟨b1, o1, rfl, -, hc⟩ := H.out.addr (by omega)
      have hcx := hc k hx
      clear hc
      by_cases hy : k < ys.length
      · obtain ⟨b2, o2, rfl, -, hc⟩ := G.out.addr (by omega)
        have hcy := hc k hy
        clear hc
        have hd := cmpInts_drop xs ys k hx hy
        rw [hr.out] at hd
        obtain ⟨x, ex⟩ : ∃ x, x = xs.getD k 0 := ⟨_, rfl⟩
        obtain ⟨y, ey⟩ : ∃ y, y = ys.getD k 0 := ⟨_, rfl⟩
        rw [← ex] at hcx hd
        rw [← ey] at hcy hd
        clear ex ey
        have HD := Lib.hid hd
        have HS := Lib.hid (cmpRune_any x y w)
        unfold CmpPost at HS
        clear hd
        by_cases h1 : x < y
        · have e : sgn x y = -1 := by unfold sgn; rw [if_pos h1]
          have e2 : cmpInts xs ys = -1 := by rw [HD.out, if_pos h1]
          rw [e] at HS
          go_wp2_with fail
          refine HS.out.mono ?_
          rintro e w2 ⟨rfl, rfl⟩
          go_wp2
          go_ret
          exact ⟨by first | rfl | (rw [e2]; rfl), rfl⟩
        by_cases h2 : y < x
        · have e : sgn x y = 1 := by unfold sgn; rw [if_neg h1, if_pos h2]
          have e2 : cmpInts xs ys = 1 := by rw [HD.out, if_neg h1, if_pos h2]
          rw [e] at HS
          go_wp2_with fail
          refine HS.out.mono ?_
          rintro e w2 ⟨rfl, rfl⟩
          go_wp2
          go_ret
          exact ⟨by first | rfl | (rw [e2]; rfl), rfl⟩
        · have e : sgn x y = 0 := by unfold sgn; rw [if_neg h1, if_neg h2]
          have e2 : Hid (cmpInts (xs.drop (k + 1)) (ys.drop (k + 1)) = cmpInts xs ys) := by show _ = _; rw [HD.out, if_neg h1, if_neg h2]
          rw [e] at HS
          go_wp2_with fail
          refine HS.out.mono ?_
          rintro e w2 ⟨rfl, rfl⟩
          go_wp2
          go_round
          case rel => exact ⟨k + 1, by omega, by omega, by go_num, e2⟩
          case measure => simp [intOf]; omega
      · have e2 : cmpInts xs ys = 1 := by
          rw [← hr.out, List.drop_eq_nil_of_le (show ys.length ≤ k by omega), List.drop_eq_getElem_cons hx]; rfl
        clear hr
        go_wp2
        go_ret
        exact ⟨by first | rfl | (rw [e2]; rfl), rfl⟩
    · by_cases hy : k < ys.length
      · have e2 : cmpInts xs ys = -1 := by
          rw [← hr.out, List.drop_eq_nil_of_le (show xs.length ≤ k by omega), List.drop_eq_getElem_cons hy]; rfl
        clear hr
        go_wp2
        go_ret
        exact ⟨by first | rfl | (rw [e2]; rfl), rfl⟩
      · have e2 : cmpInts xs ys = 0 := by
          rw [← hr.out, List.drop_eq_nil_of_le (show xs.length ≤ k by omega), List.drop_eq_nil_of_le (show ys.length ≤ k by omega)]; rfl
        clear hr
        go_wp2
        go_ret
        exact ⟨by first | rfl | (rw [e2]; rfl), rfl⟩
end Go.Proofs.Ytiklmgjacdoeoaa
