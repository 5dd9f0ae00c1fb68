/-
  The contracts of path.Check and of slices.Equal of two lists of steps that are the same. Conditions: the steps lie where the arguments say; the library's tables.
-/
import Derived.Test.YtopfkelhgffomaaDoorStepRow
import Derived.Test.YtopfkelhgffomaaDoorQuote
import Derived.Test.YtopfkelhgffomaaDoorBare
import Derived.OwnWalk
namespace Go.Proofs.YtopfkelhgffomaaDoor
open Go.RowKit Gx
set_option maxRecDepth 100000

def TrueP (w : World) (e : Ending) (w' : World) : Prop := e = .returned (.bool true) ∧ Below w.heap.size w w'
set_option maxHeartbeats 2000000 in
theorem stepEqual_any (ad bd : Option Addr) (ca cb : Nat) (l : List Step) (w : World) (h : SR w ad ca l) (g : SR w bd cb l) (hl : l.length ≤ 100000) :
    Calls Tryd.prog 12 #[.slice ad l.length ca, .slice bd l.length cb] w (TrueP w) := by
  by_cases h0 : l.length = 0
  · obtain rfl : l = [] := List.eq_nil_of_length_eq_zero h0
    go_enter Tryd.func12, Tryd.ntmps12
    go_wp2
    refine wp_loop_rounds 1 ?_
    rw [rounds_succ]
    go_wp2
    go_ret
    exact ⟨rfl, Below.refl _ _⟩
  obtain ⟨b1, o1, rfl, -, hc1⟩ := h.addr (by omega)
  obtain ⟨b2, o2, rfl, -, hc2⟩ := g.addr (by omega)
  have HC1 := Lib.hid hc1
  have HC2 := Lib.hid hc2
  clear hc1 hc2 h g h0
  obtain ⟨n, hn⟩ : ∃ n, n = l.length := ⟨_, rfl⟩
  rw [← hn] at hl ⊢
  have HN := Lib.hid hn
  clear hn
  go_enter Tryd.func12, Tryd.ntmps12
  go_wp2
  go_loopw [13] (fun i wr => ∃ k : Nat, k ≤ n ∧ i = .int .i64 k ∧ Hid (∃ n, wr = w.drewN n)) (fun i _ => n - (intOf i).toNat)
  case atStart => exact ⟨0, Nat.zero_le _, rfl, 0, rfl⟩
  case round =>
    obtain ⟨k, hk, rfl, hw⟩ := hrel
    by_cases hlt : k < n
    · have hkn : k < l.length := by have := HN.out; omega
      obtain ⟨q, hq⟩ : ∃ q, l[k]? = some q := ⟨_, List.getElem?_eq_getElem hkn⟩
      have hr : ∀ b j v, w.cell? ⟨b, j, none⟩ = some v → wr.cell? ⟨b, j, none⟩ = some v := by
        intro b j v h; obtain ⟨n, e⟩ := hw.out; rw [e, World.cell?_drewN]; exact h
      obtain ⟨c0, c1⟩ := HC1.out k q hq
      obtain ⟨d0, d1⟩ := HC2.out k q hq
      replace c0 := hr _ _ _ c0
      replace c1 := hr _ _ _ c1
      replace d0 := hr _ _ _ d0
      replace d1 := hr _ _ _ d1
      obtain ⟨p, N⟩ := q
      simp only at c0 c1 d0 d1
      clear hr hq hkn
      have hi1 : (0 : Int) ≤ (k : Int) := by omega
      have hi2 : (k : Int) < (n : Int) := by omega
      go_wp2
      go_quiet (fail)
      go_wp2
      go_roundw
      case rel => exact ⟨k + 1, by omega, by go_num, by obtain ⟨n, e⟩ := hw.out; exact ⟨n + nq, by rw [e, World.drewN_drewN]⟩⟩
      case measure => simp [intOf]; omega
    · obtain rfl : k = n := by omega
      go_wp2
      go_ret
      obtain ⟨n, e⟩ := hw.out
      exact ⟨rfl, by rw [e]; exact Gx.drewN_below _ _ _⟩
set_option maxHeartbeats 1000000 in
theorem samePath_any (ad bd : Option Addr) (ca cb : Nat) (l : List Step) (w : World) (h : SR w ad ca l) (g : SR w bd cb l) (hl : l.length ≤ 100000) :
    Calls Tryd.prog 7 #[.slice ad l.length ca, .slice bd l.length cb] w (TrueP w) := by
  have H := Lib.hid (stepEqual_any ad bd ca cb l w h g hl)
  unfold TrueP at H
  clear h g
  generalize l.length = n at *
  go_enter Tryd.func7, Tryd.ntmps7
  go_wp2_with fail
  refine H.out.mono ?_
  rintro e0 w1 ⟨rfl, hb⟩
  go_wp2_with fail
  try go_ret
  exact ⟨rfl, hb⟩

/-- what path.Check hands back -/
def ChkP (l : List Step) (w : World) (e : Ending) (w' : World) : Prop := ∃ c : Int, e = .returned (.int .i64 c) ∧ (c = 0 ↔ PathOk l) ∧ Below w.heap.size w w'
theorem chk_no {l : List Step} {w w' : World} {j : Nat} {q : Step} (c : Int) (hc : c ≠ 0) (hq : l[j]? = some q) (h : ¬ StepOk q) (hb : Below w.heap.size w w') : ChkP l w (.returned (.int .i64 c)) w' :=
  ⟨c, rfl, ⟨fun h0 => absurd h0 hc, fun h0 => absurd (h0.2 q (List.mem_of_getElem? hq)) h⟩, hb⟩
theorem ok_take {l : List Step} {j : Nat} {q : Step} (hq : l[j]? = some q) (h : ∀ x ∈ l.take j, StepOk x) (h1 : StepOk q) : ∀ x ∈ l.take (j + 1), StepOk x := by
  obtain ⟨hj, rfl⟩ := List.getElem?_eq_some_iff.1 hq
  rw [List.take_succ_eq_append_getElem hj]
  intro x hx
  rcases List.mem_append.1 hx with hx | hx
  · exact h x hx
  · rw [List.mem_singleton.1 hx]; exact h1

set_option maxHeartbeats 8000000 in
theorem chkPath_any (ad : Option Addr) (cap : Nat) (l : List Step) (w : World) (h : SR w ad cap l) (hT : Tabs w) :
    Calls Tryd.prog 8 #[.slice ad l.length cap] w (ChkP l w) := by
  by_cases hbig : 20 < l.length
  · have t : decide ((20 : Int) < (l.length : Int)) = true := decide_eq_true (by omega)
    go_enter Tryd.func8, Tryd.ntmps8
    go_wp2_with fail
    try go_ret
    exact ⟨5, rfl, ⟨fun h => by simp at h, fun h => by have := h.1; omega⟩, Below.refl _ _⟩
  have hP := Lib.hid h
  have HT := Lib.hid hT
  clear h hT
  obtain ⟨n, hn⟩ : ∃ n, n = l.length := ⟨_, rfl⟩
  rw [← hn] at hbig ⊢
  have HN := Lib.hid hn
  clear hn
  have t : decide ((20 : Int) < (n : Int)) = false := decide_eq_false (by omega)
  go_enter Tryd.func8, Tryd.ntmps8
  go_wp2_with fail
  go_loopw [10] (fun i wr => ∃ j : Nat, j ≤ n ∧ i = .int .i64 j ∧ Hid (∀ x ∈ l.take j, StepOk x) ∧ Below w.heap.size w wr) (fun i _ => n - (intOf i).toNat)
  case atStart => exact ⟨0, Nat.zero_le _, rfl, (fun x hx => by simp at hx), Below.refl _ _⟩
  case round =>
    obtain ⟨j, hj, rfl, hH, hb⟩ := hrel
    by_cases hlt : j < n
    · have hjl : j < l.length := by have := HN.out; omega
      obtain ⟨q, hq⟩ : ∃ q, l[j]? = some q := ⟨_, List.getElem?_eq_getElem hjl⟩
      obtain ⟨b, off, rfl, hbl, hcell⟩ := (hP.out.keep hb).addr (by omega)
      obtain ⟨c0, c1⟩ := hcell j q hq
      obtain ⟨p, N⟩ := q
      simp only at c0 c1
      have HQ := Lib.hid hq
      have HB := Lib.hid hb
      have hi1 : (0 : Int) ≤ (j : Int) := by omega
      have hi2 : (j : Int) < (n : Int) := by omega
      clear hcell hq hb hjl
      have z7 := bs_size p
      by_cases k1 : N < -1
      · have t1 : decide (N < -1) = true := decide_eq_true k1
        go_wp2_with fail
        try go_ret
        exact chk_no 1 (by decide) HQ.out (fun h => by have := h.1; simp only at this; omega) (HB.out.alloc HB.out.size _)
      have t1 : decide (N < -1) = false := decide_eq_false k1
      rcases Nat.eq_zero_or_pos p.length with zp | pp
      · obtain rfl : p = [] := List.eq_nil_of_length_eq_zero zp
        replace c0 : wr.cell? ⟨b, off + j * 2, none⟩ = some (.string ⟨#[]⟩) := c0
        clear z7
        have HOK := Lib.hid (ok_take HQ.out hH.out ⟨by simp only; omega, fun _ => rfl, by simp, ⟨[], rfl, rfl⟩⟩)
        have t2 : decide ((100 : Int) < ((⟨#[]⟩ : ByteArray).size : Int)) = false := by decide
        have hok : Tabs (wr.alloc (.cells #[.string (⟨#[]⟩), .int .i64 N] 28)) := HT.out.keep (HB.out.alloc HB.out.size _)
        have HC := Lib.hid (bad_any (⟨#[]⟩) _ hok (by decide))
        unfold BadPost at HC
        clear hok
        rcases Int.lt_or_le N 0 with k2 | k2
        · have t3 : decide (0 ≤ N) = false := decide_eq_false (by omega)
          go_wp2_with fail
          refine HC.out.mono ?_
          rintro e0 w2 ⟨i, rfl, hi, hb2⟩
          have HB2 := Lib.hid ((HB.out.alloc HB.out.size _).trans (hb2.mono (HB.out.alloc HB.out.size (.cells #[.string (⟨#[]⟩), .int .i64 N] 28)).size))
          have t4 : decide (0 ≤ i) = false := decide_eq_false (by have := hi.2 ⟨[], rfl, rfl⟩; omega)
          clear hi hb2
          go_wp2_with fail
          go_roundw
          case rel => exact ⟨j + 1, by omega, by go_num, HOK.out, HB2.out⟩
          case measure => simp [intOf]; omega
        · have t3 : decide (0 ≤ N) = true := decide_eq_true (by omega)
          go_wp2_with fail
          refine HC.out.mono ?_
          rintro e0 w2 ⟨i, rfl, hi, hb2⟩
          have HB2 := Lib.hid ((HB.out.alloc HB.out.size _).trans (hb2.mono (HB.out.alloc HB.out.size (.cells #[.string (⟨#[]⟩), .int .i64 N] 28)).size))
          have t4 : decide (0 ≤ i) = false := decide_eq_false (by have := hi.2 ⟨[], rfl, rfl⟩; omega)
          clear hi hb2
          go_wp2_with fail
          go_roundw
          case rel => exact ⟨j + 1, by omega, by go_num, HOK.out, HB2.out⟩
          case measure => simp [intOf]; omega
      · obtain ⟨em1, em2⟩ := bytes_em (s := bs p) (by omega)
        rcases Int.lt_or_le N 0 with k2 | k2
        · have t3 : decide (0 ≤ N) = false := decide_eq_false (by omega)
          by_cases k3 : 100 < p.length
          · have t2 : decide ((100 : Int) < ((bs p).size : Int)) = true := decide_eq_true (by omega)
            go_wp2_with fail
            try go_ret
            exact chk_no 2 (by decide) HQ.out (fun h => by have := h.2.2.1; simp only at this; omega) (HB.out.alloc HB.out.size _)
          have t2 : decide ((100 : Int) < ((bs p).size : Int)) = false := decide_eq_false (by omega)
          have hok : Tabs (wr.alloc (.cells #[.string (bs p), .int .i64 N] 28)) := HT.out.keep (HB.out.alloc HB.out.size _)
          have HC := Lib.hid (bad_any (bs p) _ hok (by omega))
          unfold BadPost at HC
          clear hok
          go_wp2_with fail
          refine HC.out.mono ?_
          rintro e0 w2 ⟨i, rfl, hi, hb2⟩
          have HB2 := Lib.hid ((HB.out.alloc HB.out.size _).trans (hb2.mono (HB.out.alloc HB.out.size (.cells #[.string (bs p), .int .i64 N] 28)).size))
          rw [list_bs] at hi
          rcases Int.lt_or_le i 0 with k4 | k4
          · have t4 : decide (0 ≤ i) = false := decide_eq_false (by omega)
            have HOK := Lib.hid (ok_take HQ.out hH.out ⟨by simp only; omega, fun h => by simp only at h; omega, by simp only; omega, hi.1 k4⟩)
            clear hi hb2
            go_wp2_with fail
            go_roundw
            case rel => exact ⟨j + 1, by omega, by go_num, HOK.out, HB2.out⟩
            case measure => simp [intOf]; omega
          · have t4 : decide (0 ≤ i) = true := decide_eq_true k4
            have HI := Lib.hid hi
            clear hi hb2
            go_wp2_with fail
            try go_ret
            exact chk_no 3 (by decide) HQ.out (fun h => by have := HI.out.2 h.2.2.2; omega) HB2.out
        · have t3 : decide (0 ≤ N) = true := decide_eq_true (by omega)
          go_wp2_with fail
          try go_ret
          exact chk_no 1 (by decide) HQ.out (fun h => by have := h.2.1 k2; simp only at this; rw [this] at pp; simp at pp) (HB.out.alloc HB.out.size _)
    · obtain rfl : j = n := by omega
      go_wp2_with fail
      try go_ret
      exact ⟨0, rfl, ⟨fun _ => ⟨by have := HN.out; omega, fun x hx => hH.out x (by rw [HN.out, List.take_length]; exact hx)⟩, fun _ => rfl⟩, hb⟩
end Go.Proofs.YtopfkelhgffomaaDoor
