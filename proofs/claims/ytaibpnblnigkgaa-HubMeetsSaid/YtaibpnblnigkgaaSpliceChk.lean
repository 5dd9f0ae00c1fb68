/-
  The contract of splice's check, Sizes. Conditions: the parts lie where the argument says.
-/
import Derived.Test.YtaibpnblnigkgaaPart
import Derived.OwnWalk
import Derived.Lib.Strings
namespace Go.Proofs.Ytaibpnblnigkgaa
open Go.RowKit Gx

def ovOf (l : List Part) : Int := if chk l = 0 then (U.over (ex l) : Int) else 0
def mkOf (l : List Part) : Int := if chk l = 0 then (U.makes (ex l) : Int) else 0
/-- what check hands back -/
def ChkPost (l : List Part) (w : World) (e : Ending) (w' : World) : Prop :=
  e = .returned (.tuple #[.int .i64 (ovOf l), .int .i64 (mkOf l), .int .i64 (chk l)]) ∧ Below w.heap.size w w'

theorem badOf_skip (l : List Part) (j : Nat) (q : Part) (h : l[j]? = some q) (h0 : partErr q = 0) : badOf (l.drop j) = badOf (l.drop (j + 1)) := by
  obtain ⟨hj, rfl⟩ := List.getElem?_eq_some_iff.1 h
  rw [List.drop_eq_getElem_cons hj]
  show (if partErr l[j] = 0 then _ else _) = _
  rw [if_pos h0]
theorem badOf_here (l : List Part) (j : Nat) (q : Part) (h : l[j]? = some q) (h0 : partErr q ≠ 0) : badOf (l.drop j) = partErr q := by
  obtain ⟨hj, rfl⟩ := List.getElem?_eq_some_iff.1 h
  rw [List.drop_eq_getElem_cons hj]
  show (if partErr l[j] = 0 then _ else _) = _
  rw [if_neg h0]
theorem ex_take (l : List Part) (j : Nat) (q : Part) (h : l[j]? = some q) : ex (l.take (j + 1)) = ex (l.take j) ++ ex1 q := by
  obtain ⟨hj, rfl⟩ := List.getElem?_eq_some_iff.1 h
  rw [List.take_succ_eq_append_getElem hj, ex_append]
  simp [ex]

theorem chk_stop {l : List Part} {w w' : World} {j : Nat} {q : Part} (hn : l.length ≤ 400) (hb : badOf l = badOf (l.drop j)) (h : l[j]? = some q) (c : Int) (hq : partErr q = c) (hc : c ≠ 0) (hw : Below w.heap.size w w') :
    ChkPost l w (.returned (.tuple #[.int .i64 0, .int .i64 0, .int .i64 c])) w' := by
  have h1 : badOf l = c := by rw [hb, badOf_here l j q h (by rw [hq]; exact hc), hq]
  have h2 : chk l = c := by unfold chk; rw [if_neg (by omega), if_neg (by rw [h1]; exact hc), h1]
  refine ⟨?_, hw⟩
  unfold ovOf mkOf
  rw [h2, if_neg hc, if_neg hc]

theorem chk_two {l : List Part} {w w' : World} (hc : chk l = 2) (hw : Below w.heap.size w w') : ChkPost l w (.returned (.tuple #[.int .i64 0, .int .i64 0, .int .i64 2])) w' := by
  refine ⟨?_, hw⟩
  unfold ovOf mkOf
  rw [hc]; rfl
theorem chk_good {l : List Part} {w w' : World} {ov mk : Nat} (hc : chk l = 0) (ho : U.over (ex l) = ov) (hm : U.makes (ex l) = mk) (hw : Below w.heap.size w w') : ChkPost l w (.returned (.tuple #[.int .i64 ov, .int .i64 mk, .int .i64 0])) w' := by
  refine ⟨?_, hw⟩
  unfold ovOf mkOf
  rw [hc, if_pos rfl, if_pos rfl, ho, hm]

theorem bs_decide (p : List UInt8) : (bs p).toList.isEmpty = decide (p = []) := by
  by_cases h : p = []
  · subst h; rw [bs_nil_isEmpty]; rfl
  · rw [bs_isEmpty p h]; simp [h]

set_option maxHeartbeats 4000000 in
theorem check_any (ad : Option Addr) (cap : Nat) (l : List Part) (w : World) (h : PR w ad cap l) :
    Calls Try.prog 21 #[.slice ad l.length cap] w (ChkPost l w) := by
  by_cases hbig : 400 < l.length
  · have t : decide ((400 : Int) < (l.length : Int)) = true := decide_eq_true (by omega)
    go_enter Try.func21, Try.ntmps21
    go_wp2
    go_ret3
    exact chk_two (by unfold chk; rw [if_pos hbig]) (Below.refl _ _)
  have hP := Lib.hid h
  clear h
  obtain ⟨n, hn⟩ : ∃ n, n = l.length := ⟨_, rfl⟩
  rw [← hn] at hbig ⊢
  have HN := Lib.hid hn
  clear hn
  have t : decide ((400 : Int) < (n : Int)) = false := decide_eq_false (by omega)
  go_enter Try.func21, Try.ntmps21
  go_wp2
  go_loopw [2, 3, 12] (fun a b i wr => ∃ j ov mk : Nat, j ≤ n ∧ i = .int .i64 j ∧ a = .int .i64 ov ∧ b = .int .i64 mk ∧ ov ≤ 20000 * j ∧ mk ≤ 40000 * j ∧
      Hid (U.over (ex (l.take j)) = ov ∧ U.makes (ex (l.take j)) = mk ∧ badOf l = badOf (l.drop j)) ∧ Below w.heap.size w wr) (fun _ _ i _ => n - (intOf i).toNat)
  case atStart => exact ⟨0, 0, 0, Nat.zero_le _, rfl, rfl, rfl, by omega, by omega, ⟨rfl, rfl, rfl⟩, Below.refl _ _⟩
  case round =>
    obtain ⟨j, ov, mk, hj, rfl, rfl, rfl, ho, hm, hH, hb⟩ := hrel
    by_cases hlt : j < n
    · have hjl : j < l.length := by have := HN.out; omega
      obtain ⟨q, hq⟩ : ∃ q, l[j]? = some q := ⟨_, List.getElem?_eq_getElem hjl⟩
      obtain ⟨b, off, rfl, hbl, hcell⟩ := (hP.out.keep hb).addr (by omega)
      obtain ⟨c0, c1, c2⟩ := hcell j q hq
      obtain ⟨kind, N, p⟩ := q
      simp only at c0 c1 c2
      have HQ := Lib.hid hq
      have HB := Lib.hid hb
      have hi1 : (0 : Int) ≤ (j : Int) := by omega
      have hi2 : (j : Int) < (n : Int) := by omega
      clear hcell hq hb hjl
      have z7 := bs_size p
      by_cases k1 : kind < 1
      · have t1 : decide (kind < 1) = true := decide_eq_true k1
        go_wp2
        go_ret3
        exact chk_stop (by have := HN.out; omega) hH.out.2.2 HQ.out 10 (by unfold partErr; dsimp only; (repeat' split) <;> first | rfl | omega | simp_all) (by decide) (HB.out.alloc HB.out.size _)
      have t1 : decide (kind < 1) = false := decide_eq_false k1
      by_cases k2 : 3 < kind
      · have t2 : decide (3 < kind) = true := decide_eq_true k2
        go_wp2
        go_ret3
        exact chk_stop (by have := HN.out; omega) hH.out.2.2 HQ.out 10 (by unfold partErr; dsimp only; (repeat' split) <;> first | rfl | omega | simp_all) (by decide) (HB.out.alloc HB.out.size _)
      have t2 : decide (3 < kind) = false := decide_eq_false k2
      by_cases k3 : N < 0
      · have t3 : decide (N < 0) = true := decide_eq_true k3
        go_wp2
        go_ret3
        exact chk_stop (by have := HN.out; omega) hH.out.2.2 HQ.out 1 (by unfold partErr; dsimp only; (repeat' split) <;> first | rfl | omega | simp_all) (by decide) (HB.out.alloc HB.out.size _)
      have t3 : decide (N < 0) = false := decide_eq_false k3
      by_cases k4 : 20000 < N
      · have t4 : decide (20000 < N) = true := decide_eq_true k4
        go_wp2
        go_ret3
        exact chk_stop (by have := HN.out; omega) hH.out.2.2 HQ.out 1 (by unfold partErr; dsimp only; (repeat' split) <;> first | rfl | omega | simp_all) (by decide) (HB.out.alloc HB.out.size _)
      have t4 : decide (20000 < N) = false := decide_eq_false k4
      by_cases k5 : kind = 3
      · subst k5
        by_cases k6 : N = 0
        · subst k6
          by_cases k7 : 20000 < p.length
          · have t7 : decide ((20000 : Int) < ((bs p).size : Int)) = true := decide_eq_true (by omega)
            go_wp2
            go_ret3
            exact chk_stop (by have := HN.out; omega) hH.out.2.2 HQ.out 2 (by unfold partErr; dsimp only; (repeat' split) <;> first | rfl | omega | simp_all) (by decide) (HB.out.alloc HB.out.size _)
          have t7 : decide ((20000 : Int) < ((bs p).size : Int)) = false := decide_eq_false (by omega)
          have h0 : partErr ((3 : Int), (0 : Int), p) = 0 := partErr_zero ⟨by simp, by simp; try omega, by simp, by simp⟩ (by simp; try omega) (by simp; try omega)
          have e1 := ex_take l j ((3 : Int), (0 : Int), p) HQ.out
          have o1 := over_ex1 ((3 : Int), (0 : Int), p) (partErr_ok h0).1
          have m1 := makes_ex1 ((3 : Int), (0 : Int), p) (partErr_ok h0).1
          simp at o1 m1
          have H2 : Hid (U.over (ex (l.take (j + 1))) = ov + 0 ∧ U.makes (ex (l.take (j + 1))) = mk + p.length ∧ badOf l = badOf (l.drop (j + 1))) := by
            have h1 := hH.out
            refine ⟨?_, ?_, ?_⟩
            · rw [e1, U.over_append, h1.1]; omega
            · rw [e1, U.makes_append, h1.2.1]; omega
            · rw [h1.2.2, badOf_skip l j _ HQ.out h0]
          clear h0 e1 o1 m1
          go_wp2
          go_roundw
          case rel => exact ⟨j + 1, ov + 0, mk + p.length, by omega, by go_num, by go_num, by go_num, by omega, by omega, H2, HB.out.alloc HB.out.size _⟩
          case measure => simp [intOf]; omega
        · have t6 : decide (N = 0) = false := decide_eq_false k6
          go_wp2
          go_ret3
          exact chk_stop (by have := HN.out; omega) hH.out.2.2 HQ.out 1 (by unfold partErr; dsimp only; (repeat' split) <;> first | rfl | omega | simp_all) (by decide) (HB.out.alloc HB.out.size _)
      have t5 : decide (kind = 3) = false := decide_eq_false k5
      by_cases k7 : 20000 < p.length
      · have t7 : decide ((20000 : Int) < ((bs p).size : Int)) = true := decide_eq_true (by omega)
        go_wp2
        go_ret3
        exact chk_stop (by have := HN.out; omega) hH.out.2.2 HQ.out 2 (by unfold partErr; dsimp only; (repeat' split) <;> first | rfl | omega | simp_all) (by decide) (HB.out.alloc HB.out.size _)
      have t7 : decide ((20000 : Int) < ((bs p).size : Int)) = false := decide_eq_false (by omega)
      by_cases k8 : p = []
      · subst k8
        have hpe := bs_nil_isEmpty
        obtain ⟨M, rfl⟩ : ∃ M : Nat, N = M := ⟨N.toNat, by omega⟩
        by_cases k9 : kind = 2
        · subst k9
          have h0 : partErr ((2 : Int), (M : Int), ([] : List UInt8)) = 0 := partErr_zero ⟨by simp, by simp; try omega, by simp, by simp⟩ (by simp; try omega) (by simp; try omega)
          have e1 := ex_take l j ((2 : Int), (M : Int), ([] : List UInt8)) HQ.out
          have o1 := over_ex1 ((2 : Int), (M : Int), ([] : List UInt8)) (partErr_ok h0).1
          have m1 := makes_ex1 ((2 : Int), (M : Int), ([] : List UInt8)) (partErr_ok h0).1
          simp at o1 m1
          have H2 : Hid (U.over (ex (l.take (j + 1))) = ov + M ∧ U.makes (ex (l.take (j + 1))) = mk + 0 ∧ badOf l = badOf (l.drop (j + 1))) := by
            have h1 := hH.out
            refine ⟨?_, ?_, ?_⟩
            · rw [e1, U.over_append, h1.1]; omega
            · rw [e1, U.makes_append, h1.2.1]; omega
            · rw [h1.2.2, badOf_skip l j _ HQ.out h0]
          clear h0 e1 o1 m1
          go_wp2
          go_roundw
          case rel => exact ⟨j + 1, ov + M, mk + 0, by omega, by go_num, by go_num, by go_num, by omega, by omega, H2, HB.out.alloc HB.out.size _⟩
          case measure => simp [intOf]; omega
        · obtain rfl : kind = 1 := by omega
          have h0 : partErr ((1 : Int), (M : Int), ([] : List UInt8)) = 0 := partErr_zero ⟨by simp, by simp; try omega, by simp, by simp⟩ (by simp; try omega) (by simp; try omega)
          have e1 := ex_take l j ((1 : Int), (M : Int), ([] : List UInt8)) HQ.out
          have o1 := over_ex1 ((1 : Int), (M : Int), ([] : List UInt8)) (partErr_ok h0).1
          have m1 := makes_ex1 ((1 : Int), (M : Int), ([] : List UInt8)) (partErr_ok h0).1
          simp at o1 m1
          have H2 : Hid (U.over (ex (l.take (j + 1))) = ov + M ∧ U.makes (ex (l.take (j + 1))) = mk + M ∧ badOf l = badOf (l.drop (j + 1))) := by
            have h1 := hH.out
            refine ⟨?_, ?_, ?_⟩
            · rw [e1, U.over_append, h1.1]; omega
            · rw [e1, U.makes_append, h1.2.1]; omega
            · rw [h1.2.2, badOf_skip l j _ HQ.out h0]
          clear h0 e1 o1 m1
          go_wp2
          go_roundw
          case rel => exact ⟨j + 1, ov + M, mk + M, by omega, by go_num, by go_num, by go_num, by omega, by omega, H2, HB.out.alloc HB.out.size _⟩
          case measure => simp [intOf]; omega
      · have hpe := bs_isEmpty p k8
        go_wp2
        go_ret3
        exact chk_stop (by have := HN.out; omega) hH.out.2.2 HQ.out 1 (by unfold partErr; dsimp only; (repeat' split) <;> first | rfl | omega | simp_all) (by decide) (HB.out.alloc HB.out.size _)
    · obtain rfl : j = n := by omega
      have hH2 : U.over (ex l) = ov ∧ U.makes (ex l) = mk ∧ badOf l = 0 := by
        obtain ⟨h1, h2, h3⟩ := hH.out
        rw [HN.out, List.take_length] at h1 h2
        rw [HN.out, List.drop_length] at h3
        exact ⟨h1, h2, h3⟩
      have HH := Lib.hid hH2
      have hbig' : ¬ 400 < l.length := by have := HN.out; omega
      clear hH2 hH
      by_cases ho1 : 20000 < ov ∨ 20000 < mk
      · have hc : chk l = 2 := by obtain ⟨h1, h2, h3⟩ := HH.out; unfold chk; rw [if_neg hbig', if_pos h3, h1, h2, if_pos ho1]
        have HC := Lib.hid hc
        clear hc
        by_cases ho2 : 20000 < ov
        · have t1 : decide ((20000 : Int) < (ov : Int)) = true := decide_eq_true (by omega)
          go_wp2
          go_ret3
          exact chk_two HC.out hb
        · have t1 : decide ((20000 : Int) < (ov : Int)) = false := decide_eq_false (by omega)
          have t2 : decide ((20000 : Int) < (mk : Int)) = true := decide_eq_true (by omega)
          go_wp2
          go_ret3
          exact chk_two HC.out hb
      · have hc : chk l = 0 := by obtain ⟨h1, h2, h3⟩ := HH.out; unfold chk; rw [if_neg hbig', if_pos h3, h1, h2, if_neg ho1]
        have HC := Lib.hid hc
        clear hc
        have t1 : decide ((20000 : Int) < (ov : Int)) = false := decide_eq_false (by omega)
        have t2 : decide ((20000 : Int) < (mk : Int)) = false := decide_eq_false (by omega)
        go_wp2
        go_ret3
        exact chk_good HC.out HH.out.1 HH.out.2.1 hb
end Go.Proofs.Ytaibpnblnigkgaa
