/-
  The contracts of splice's both and good; the memory of two feeds and a builder. Conditions: the parts lie where the arguments say.
-/
import Derived.Test.YtaibpnblnigkgaaFeed
import Derived.Test.YtaibpnblnigkgaaInvert
namespace Go.Proofs.Ytaibpnblnigkgaa
open Go.RowKit Gx

theorem made_fd (w : World) (base : Nat) (vo : Option Addr) (vc : Nat) (l : List Part) (h : w.ownsRow base 54 3 (.slice vo l.length vc) l.length (partCells l)) (hb : base ≤ w.heap.size) :
    Fd (w.alloc (.cells #[.slice vo l.length vc] 96)) base (w.heap.size + 1) w.heap.size l := by
  have hnew : (w.alloc (.cells #[.slice vo l.length vc] 96)).heap[w.heap.size]? = some (.cells #[.slice vo l.length vc] 96 (0, 0)) := heap_alloc_new w _
  rcases h.2 with ⟨hv, h0⟩ | ⟨g, cap, cur, hv, hg, hh, hn, hm, hs, ht⟩
  · have hl : l = [] := List.eq_nil_of_length_eq_zero h0
    simp only [Value.slice.injEq] at hv
    obtain ⟨-, -, rfl⟩ := hv
    exact ⟨⟨vo, 0, hnew, by omega, by omega, fun hne => absurd hl hne⟩, ⟨hb, by omega⟩, by simp⟩
  · simp only [Value.slice.injEq, true_and] at hv
    obtain ⟨rfl, rfl⟩ := hv
    have hlt : g < w.heap.size := (Array.getElem?_eq_some_iff.1 hh).1
    unfold maxLen at hm
    refine ⟨⟨_, vc, hnew, hn, by omega, fun hne => ⟨g, 0, cur, rfl, by omega, hg, by omega, (heap_alloc_old w _ hlt).trans hh, fun j v hj => ?_⟩⟩, ⟨hb, by omega⟩, by simp⟩
    rw [← ht] at hj
    rw [List.getElem?_take] at hj
    split at hj
    · rw [Nat.zero_add]; simpa using hj
    · cases hj

/-- two feeds, in memory of the call's own -/
def BothPost (A B : List Part) (w : World) (e : Ending) (w' : World) : Prop :=
  ∃ gx gy lx hx ly hy, e = .returned (.tuple #[.pointer (some ⟨gx, 0, none⟩), .pointer (some ⟨gy, 0, none⟩), .int .i64 0]) ∧ Fd w' lx hx gx A ∧ Fd w' ly hy gy B ∧ w.heap.size ≤ lx ∧ hx ≤ ly ∧ Below w.heap.size w w'

set_option maxHeartbeats 1000000 in
theorem both_ok (ad bd : Option Addr) (ca cb : Nat) (l m : List Part) (w : World) (h : PR w ad ca l) (g : PR w bd cb m) (hl : chk l = 0) (hm : chk m = 0) :
    Calls Try.prog 33 #[.slice ad l.length ca, .slice bd m.length cb] w (BothPost (nf (ex l)) (nf (ex m)) w) := by
  have H1 := fun w0 (hb : Below w.heap.size w w0) => check_ok ad ca l w0 (h.keep hb) hl
  have H2 := fun w0 (hb : Below w.heap.size w w0) => check_ok bd cb m w0 (g.keep hb) hm
  have H3 := fun w0 (hb : Below w.heap.size w w0) => norm_any ad ca l w0 (h.keep hb) hl
  have H4 := fun w0 (hb : Below w.heap.size w w0) => norm_any bd cb m w0 (g.keep hb) hm
  obtain ⟨A, hA⟩ : ∃ A, A = nf (ex l) := ⟨_, rfl⟩
  obtain ⟨B, hB⟩ : ∃ A, A = nf (ex m) := ⟨_, rfl⟩
  obtain ⟨o1, ho1⟩ : ∃ A, A = U.over (ex l) := ⟨_, rfl⟩
  obtain ⟨o2, ho2⟩ : ∃ A, A = U.over (ex m) := ⟨_, rfl⟩
  obtain ⟨m1, hm1⟩ : ∃ A, A = U.makes (ex l) := ⟨_, rfl⟩
  obtain ⟨m2, hm2⟩ : ∃ A, A = U.makes (ex m) := ⟨_, rfl⟩
  obtain ⟨n, hn⟩ : ∃ A, A = l.length := ⟨_, rfl⟩
  obtain ⟨k, hk⟩ : ∃ A, A = m.length := ⟨_, rfl⟩
  rw [← hA, ← hB, ← hn, ← hk]
  rw [← ho1, ← hm1, ← hn] at H1
  rw [← ho2, ← hm2, ← hk] at H2
  rw [← hA, ← hn] at H3
  rw [← hB, ← hk] at H4
  replace H1 := Lib.hid H1
  replace H2 := Lib.hid H2
  replace H3 := Lib.hid H3
  replace H4 := Lib.hid H4
  clear h g hl hm hA hB ho1 ho2 hm1 hm2 hn hk
  go_enter Try.func33, Try.ntmps33
  go_wp2_with fail
  refine (H1.out w (Below.refl _ _)).mono ?_
  rintro e w1 ⟨rfl, hb⟩
  have B1 := Lib.hid hb
  clear hb
  go_wp2_with fail
  refine (H2.out w1 B1.out).mono ?_
  rintro e w2 ⟨rfl, hb⟩
  have B2 := Lib.hid (B1.out.trans (hb.mono B1.out.size))
  clear hb B1
  go_wp2_with fail
  refine (H3.out w2 B2.out).mono ?_
  rintro e w3 ⟨⟨vo, vc, rfl, hown⟩, hb⟩
  have B3 := Lib.hid (B2.out.trans (hb.mono B2.out.size))
  have F3 := Lib.hid (made_fd w3 _ vo vc A hown hb.size)
  have B4 := Lib.hid (B3.out.alloc B3.out.size (.cells #[.slice vo A.length vc] 96))
  have S2 := Lib.hid B2.out.size
  clear hb hown B2 B3
  go_wp2_with fail
  obtain ⟨w4, hw4⟩ : ∃ w4, w4 = w3.alloc (.cells #[.slice vo A.length vc] 96) := ⟨_, rfl⟩
  rw [← hw4] at F3 B4 ⊢
  have hs4 : w3.heap.size + 1 ≤ w4.heap.size := F3.out.top
  clear hw4
  refine (H4.out w4 B4.out).mono ?_
  rintro e w5 ⟨⟨uo, uc, rfl, hown⟩, hb⟩
  have B5 := Lib.hid (B4.out.trans (hb.mono B4.out.size))
  have F5 := Lib.hid (made_fd w5 _ uo uc B hown hb.size)
  have F6 := Lib.hid ((F3.out.below hb).below ((Below.refl _ _).alloc (Nat.le_refl _) (.cells #[.slice uo B.length uc] 96)))
  have B6 := Lib.hid (B5.out.alloc B5.out.size (.cells #[.slice uo B.length uc] 96))
  clear hb hown B4 B5
  go_wp2
  go_ret3
  exact ⟨_, _, _, _, _, _, rfl, F6.out, F5.out, S2.out, hs4, B6.out⟩

theorem both_no1 (ad bd : Option Addr) (ca cb : Nat) (l m : List Part) (w : World) (h : PR w ad ca l) (hl : chk l ≠ 0) :
    Calls Try.prog 33 #[.slice ad l.length ca, .slice bd m.length cb] w fun e w' => e = .returned (.tuple #[.pointer none, .pointer none, .int .i64 (chk l)]) ∧ Below w.heap.size w w' := by
  have H := Lib.hid (check_no ad ca l w h hl)
  obtain ⟨c, hc⟩ : ∃ c, c = chk l := ⟨_, rfl⟩
  rw [← hc] at H hl ⊢
  clear h hc
  have hc3 : decide (c = 0) = false := decide_eq_false hl
  have hc4 : (c == 0) = false := by simpa using hc3
  have hc5 : (c != 0) = true := by simpa using hc3
  clear hl
  go_enter Try.func33, Try.ntmps33
  go_wp2_with fail
  refine H.out.mono ?_
  rintro e w1 ⟨rfl, hb⟩
  have B1 := Lib.hid hb
  clear hb H
  go_wp2
  go_ret3
  exact ⟨rfl, B1.out⟩
theorem both_no2 (ad bd : Option Addr) (ca cb : Nat) (l m : List Part) (w : World) (h : PR w ad ca l) (g : PR w bd cb m) (hl : chk l = 0) (hm : chk m ≠ 0) :
    Calls Try.prog 33 #[.slice ad l.length ca, .slice bd m.length cb] w fun e w' => e = .returned (.tuple #[.pointer none, .pointer none, .int .i64 (chk m)]) ∧ Below w.heap.size w w' := by
  have H := Lib.hid (check_ok ad ca l w h hl)
  have G := fun w0 (hb : Below w.heap.size w w0) => check_no bd cb m w0 (g.keep hb) hm
  obtain ⟨c, hc⟩ : ∃ c, c = chk m := ⟨_, rfl⟩
  rw [← hc] at G hm ⊢
  replace G := Lib.hid G
  clear h g hc hl
  have hc3 : decide (c = 0) = false := decide_eq_false hm
  have hc4 : (c == 0) = false := by simpa using hc3
  have hc5 : (c != 0) = true := by simpa using hc3
  clear hm
  go_enter Try.func33, Try.ntmps33
  go_wp2_with fail
  refine H.out.mono ?_
  rintro e w1 ⟨rfl, hb⟩
  have B1 := Lib.hid hb
  clear hb H
  go_wp2_with fail
  refine (G.out w1 B1.out).mono ?_
  rintro e w2 ⟨rfl, hb⟩
  have B2 := Lib.hid (B1.out.trans (hb.mono B1.out.size))
  clear hb B1 G
  go_wp2
  go_ret3
  exact ⟨rfl, B2.out⟩

theorem good_ok (ad : Option Addr) (ca : Nat) (l : List Part) (w : World) (h : PR w ad ca l) (hl : chk l = 0) :
    Calls Try.prog 38 #[.slice ad l.length ca] w fun e w' => e = .returned (.tuple #[.slice ad l.length ca, .int .i64 0]) ∧ Below w.heap.size w w' := by
  have H := Lib.hid (check_ok ad ca l w h hl)
  obtain ⟨n, hn⟩ : ∃ n, n = l.length := ⟨_, rfl⟩
  rw [← hn] at H ⊢
  clear h hl hn
  go_enter Try.func38, Try.ntmps38
  go_wp2_with fail
  refine H.out.mono ?_
  rintro e w1 ⟨rfl, hb⟩
  have B1 := Lib.hid hb
  clear hb H
  go_wp2
  go_ret2
  exact ⟨rfl, B1.out⟩
theorem good_no (ad : Option Addr) (ca : Nat) (l : List Part) (w : World) (h : PR w ad ca l) (hl : chk l ≠ 0) :
    Calls Try.prog 38 #[.slice ad l.length ca] w fun e w' => e = .returned (.tuple #[.slice none 0 0, .int .i64 2]) ∧ Below w.heap.size w w' := by
  have H := Lib.hid (check_no ad ca l w h hl)
  obtain ⟨n, hn⟩ : ∃ n, n = l.length := ⟨_, rfl⟩
  obtain ⟨c, hc⟩ : ∃ c, c = chk l := ⟨_, rfl⟩
  rw [← hc] at H hl
  rw [← hn] at H ⊢
  have hc3 : decide (c = 0) = false := decide_eq_false hl
  have hc4 : (c == 0) = false := by simpa using hc3
  have hc5 : (c != 0) = true := by simpa using hc3
  clear h hl hn hc
  go_enter Try.func38, Try.ntmps38
  go_wp2_with fail
  refine H.out.mono ?_
  rintro e w1 ⟨rfl, hb⟩
  have B1 := Lib.hid hb
  clear hb H
  go_wp2
  go_ret2
  exact ⟨rfl, B1.out⟩
end Go.Proofs.Ytaibpnblnigkgaa
