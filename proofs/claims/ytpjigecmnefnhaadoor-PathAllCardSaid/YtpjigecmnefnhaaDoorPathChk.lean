/-
  The contract of path.Check. Conditions: the steps lie where the arguments say; Go's two tables of utf8 lie in the world.
-/
import Derived.Test.YtpjigecmnefnhaaDoorStepRow
import Derived.Test.YtpjigecmnefnhaaDoorUtf8Walk
import Derived.OwnWalk
namespace Go.Proofs.YtpjigecmnefnhaaDoor
open Go.RowKit Gx
set_option maxRecDepth 100000

/-- what path.Check hands back -/
def ChkP (l : List Step) (w : World) (e : Ending) (w' : World) : Prop := ∃ c : Int, e = .returned (.int .i64 c) ∧ (c = 0 ↔ PathOk l) ∧ Below w.heap.size w w'
theorem chk_no {l : List Step} {w w' : World} {j : Nat} {q : Step} (c : Int) (hc : c ≠ 0) (hq : l[j]? = some q) (h : ¬ StepOk q) (hb : Below w.heap.size w w') : ChkP l w (.returned (.int .i64 c)) w' :=
  ⟨c, rfl, ⟨fun h0 => absurd h0 hc, fun h0 => absurd (h0.2 q (List.mem_of_getElem? hq)) h⟩, hb⟩
theorem ok_take {l : List Step} {j : Nat} {q : Step} (hq : l[j]? = some q) (h : ∀ x ∈ l.take j, StepOk x) (h1 : StepOk q) : ∀ x ∈ l.take (j + 1), StepOk x := by
  obtain ⟨hj, rfl⟩ := List.getElem?_eq_some_iff.1 hq
  rw [List.take_succ_eq_append_getElem hj]
  intro x hx
  rcases List.mem_append.1 hx with hx | hx
  · exact h x hx
  · rw [List.mem_singleton.1 hx]; exact h1

set_option maxHeartbeats 8000000 in
theorem chkPath_any (ad : Option Addr) (cap : Nat) (l : List Step) (w : World) (h : SR w ad cap l) (hT : Tabs w) :
    Calls Tryd.prog 6 #[.slice ad l.length cap] w (ChkP l w) := by
  by_cases hbig : 20 < l.length
  · have t : decide ((20 : Int) < (l.length : Int)) = true := decide_eq_true (by omega)
    go_enter Tryd.func6, Tryd.ntmps6
    go_wp2_with fail
    try go_ret
    exact ⟨5, rfl, ⟨fun h => by simp at h, fun h => by have := h.1; omega⟩, Below.refl _ _⟩
  have hP := Lib.hid h
  have HT := Lib.hid hT
  clear h hT
  obtain ⟨n, hn⟩ : ∃ n, n = l.length := ⟨_, rfl⟩
  rw [← hn] at hbig ⊢
  have HN := Lib.hid hn
  clear hn
  have t : decide ((20 : Int) < (n : Int)) = false := decide_eq_false (by omega)
  go_enter Tryd.func6, Tryd.ntmps6
  go_wp2_with fail
  go_loopw [10] (fun i wr => ∃ j : Nat, j ≤ n ∧ i = .int .i64 j ∧ Hid (∀ x ∈ l.take j, StepOk x) ∧ Below w.heap.size w wr) (fun i _ => n - (intOf i).toNat)
  case atStart => exact ⟨0, Nat.zero_le _, rfl, (fun x hx => by simp at hx), Below.refl _ _⟩
  case round =>
    obtain ⟨j, hj, rfl, hH, hb⟩ := hrel
    by_cases hlt : j < n
    · have hjl : j < l.length := by have := HN.out; omega
      obtain ⟨q, hq⟩ : ∃ q, l[j]? = some q := ⟨_, List.getElem?_eq_getElem hjl⟩
      obtain ⟨b, off, rfl, hbl, hcell⟩ := (hP.out.keep hb).addr (by omega)
      obtain ⟨c0, c1⟩ := hcell j q hq
      obtain ⟨p, N⟩ := q
      simp only at c0 c1
      have HQ := Lib.hid hq
      have HB := Lib.hid hb
      have hi1 : (0 : Int) ≤ (j : Int) := by omega
      have hi2 : (j : Int) < (n : Int) := by omega
      clear hcell hq hb hjl
      have z7 := bs_size p
      by_cases k1 : N < -1
      · have t1 : decide (N < -1) = true := decide_eq_true k1
        go_wp2_with fail
        try go_ret
        exact chk_no 1 (by decide) HQ.out (fun h => by have := h.1; simp only at this; omega) (HB.out.alloc HB.out.size _)
      have t1 : decide (N < -1) = false := decide_eq_false k1
      rcases Nat.eq_zero_or_pos p.length with zp | pp
      · obtain rfl : p = [] := List.eq_nil_of_length_eq_zero zp
        replace c0 : wr.cell? ⟨b, off + j * 2, none⟩ = some (.string ⟨#[]⟩) := c0
        clear z7
        have HOK := Lib.hid (ok_take HQ.out hH.out ⟨by simp only; omega, fun _ => rfl, by simp, ⟨[], rfl, rfl⟩⟩)
        have t2 : decide ((100 : Int) < ((⟨#[]⟩ : ByteArray).size : Int)) = false := by decide
        have hok : Tabs (wr.alloc (.cells #[.string (⟨#[]⟩), .int .i64 N] 33)) := HT.out.keep (HB.out.alloc HB.out.size _)
        have HC := Lib.hid (bad_any (⟨#[]⟩) _ hok (by decide))
        unfold BadPost at HC
        clear hok
        rcases Int.lt_or_le N 0 with k2 | k2
        · have t3 : decide (0 ≤ N) = false := decide_eq_false (by omega)
          go_wp2_with fail
          refine HC.out.mono ?_
          rintro e0 w2 ⟨i, rfl, hi, hb2⟩
          have HB2 := Lib.hid ((HB.out.alloc HB.out.size _).trans (hb2.mono (HB.out.alloc HB.out.size (.cells #[.string (⟨#[]⟩), .int .i64 N] 33)).size))
          have t4 : decide (0 ≤ i) = false := decide_eq_false (by have := hi.2 ⟨[], rfl, rfl⟩; omega)
          clear hi hb2
          go_wp2_with fail
          go_roundw
          case rel => exact ⟨j + 1, by omega, by go_num, HOK.out, HB2.out⟩
          case measure => simp [intOf]; omega
        · have t3 : decide (0 ≤ N) = true := decide_eq_true (by omega)
          go_wp2_with fail
          refine HC.out.mono ?_
          rintro e0 w2 ⟨i, rfl, hi, hb2⟩
          have HB2 := Lib.hid ((HB.out.alloc HB.out.size _).trans (hb2.mono (HB.out.alloc HB.out.size (.cells #[.string (⟨#[]⟩), .int .i64 N] 33)).size))
          have t4 : decide (0 ≤ i) = false := decide_eq_false (by have := hi.2 ⟨[], rfl, rfl⟩; omega)
          clear hi hb2
          go_wp2_with fail
          go_roundw
          case rel => exact ⟨j + 1, by omega, by go_num, HOK.out, HB2.out⟩
          case measure => simp [intOf]; omega
      · obtain ⟨em1, em2⟩ := bytes_em (s := bs p) (by omega)
        rcases Int.lt_or_le N 0 with k2 | k2
        · have t3 : decide (0 ≤ N) = false := decide_eq_false (by omega)
          by_cases k3 : 100 < p.length
          · have t2 : decide ((100 : Int) < ((bs p).size : Int)) = true := decide_eq_true (by omega)
            go_wp2_with fail
            try go_ret
            exact chk_no 2 (by decide) HQ.out (fun h => by have := h.2.2.1; simp only at this; omega) (HB.out.alloc HB.out.size _)
          have t2 : decide ((100 : Int) < ((bs p).size : Int)) = false := decide_eq_false (by omega)
          have hok : Tabs (wr.alloc (.cells #[.string (bs p), .int .i64 N] 33)) := HT.out.keep (HB.out.alloc HB.out.size _)
          have HC := Lib.hid (bad_any (bs p) _ hok (by omega))
          unfold BadPost at HC
          clear hok
          go_wp2_with fail
          refine HC.out.mono ?_
          rintro e0 w2 ⟨i, rfl, hi, hb2⟩
          have HB2 := Lib.hid ((HB.out.alloc HB.out.size _).trans (hb2.mono (HB.out.alloc HB.out.size (.cells #[.string (bs p), .int .i64 N] 33)).size))
          rw [list_bs] at hi
          rcases Int.lt_or_le i 0 with k4 | k4
          · have t4 : decide (0 ≤ i) = false := decide_eq_false (by omega)
            have HOK := Lib.hid (ok_take HQ.out hH.out ⟨by simp only; omega, fun h => by simp only at h; omega, by simp only; omega, hi.1 k4⟩)
            clear hi hb2
            go_wp2_with fail
            go_roundw
            case rel => exact ⟨j + 1, by omega, by go_num, HOK.out, HB2.out⟩
            case measure => simp [intOf]; omega
          · have t4 : decide (0 ≤ i) = true := decide_eq_true k4
            have HI := Lib.hid hi
            clear hi hb2
            go_wp2_with fail
            try go_ret
            exact chk_no 3 (by decide) HQ.out (fun h => by have := HI.out.2 h.2.2.2; omega) HB2.out
        · have t3 : decide (0 ≤ N) = true := decide_eq_true (by omega)
          go_wp2_with fail
          try go_ret
          exact chk_no 1 (by decide) HQ.out (fun h => by have := h.2.1 k2; simp only at this; rw [this] at pp; simp at pp) (HB.out.alloc HB.out.size _)
    · obtain rfl : j = n := by omega
      go_wp2_with fail
      try go_ret
      exact ⟨0, rfl, ⟨fun _ => ⟨by have := HN.out; omega, fun x hx => hH.out x (by rw [HN.out, List.take_length]; exact hx)⟩, fun _ => rfl⟩, hb⟩
end Go.Proofs.YtpjigecmnefnhaaDoor
