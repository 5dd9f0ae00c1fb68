/-
  The walk of typecasekeep.NumSign. No conditions.
-/
import Derived.Test.YtpoagjiknmahiaaDoorNumRead
namespace Go.Proofs.YtpoagjiknmahiaaDoor
open Go.RowKit Gx

theorem readEnd_err (m : Bool) (q : Option (Int × Nat × Int)) (h : (readEnd m q).2 ≠ 0) : (readEnd m q).1 = 0 := by
  unfold readEnd at h ⊢
  split
  · rfl
  · simp only at h ⊢
    split
    · rfl
    · rw [if_neg ‹_›] at h
      split
      · rfl
      · rw [if_neg ‹_›] at h
        exact absurd rfl h
theorem read_err (l : List UInt8) (h : (readOf l).2 ≠ 0) : (readOf l).1 = 0 := by
  unfold readOf at h ⊢
  split
  · rfl
  · rw [if_neg ‹_›] at h
    unfold readBy at h ⊢
    split
    · rfl
    · rw [if_neg ‹_›] at h
      exact readEnd_err _ _ h
theorem read_nil : (readOf []).2 ≠ 0 := by decide

theorem read_sign (c : UInt8) (t : List UInt8) (hc : c ≠ 45) (hl : (c :: t).length < 80) (h : (readOf (c :: t)).2 = 0) :
    (readOf (45 :: c :: t)).2 = 0 ∧ (readOf (45 :: c :: t)).1 = - (readOf (c :: t)).1 ∧ 0 ≤ (readOf (c :: t)).1 ∧ (readOf (c :: t)).1 ≤ 9223372036854775807 := by
  have p1 : Lib.hasPrefix (c :: t) [45] = false := by
    unfold Lib.hasPrefix
    simp [List.isPrefixOf]
    intro e; exact hc e.symm
  have p2 : Lib.hasPrefix (45 :: c :: t) [45] = true := by
    unfold Lib.hasPrefix
    simp [List.isPrefixOf]
  have t1 : Lib.trimPrefix (c :: t) [45] = c :: t := by unfold Lib.trimPrefix; rw [p1]; rfl
  have t2 : Lib.trimPrefix (45 :: c :: t) [45] = c :: t := by unfold Lib.trimPrefix; rw [p2]; rfl
  have e1 : readOf (c :: t) = readBy false (baseOf (c :: t)).1 (baseOf (c :: t)).2 := by
    unfold readOf; rw [if_neg (by omega), p1, t1]
  have e2 : readOf (45 :: c :: t) = readBy true (baseOf (c :: t)).1 (baseOf (c :: t)).2 := by
    unfold readOf; rw [if_neg (by rw [List.length_cons]; omega), p2, t2]
  rw [e1] at h ⊢
  rw [e2]
  generalize (baseOf (c :: t)).1 = b at *
  generalize (baseOf (c :: t)).2 = r at *
  unfold readBy at h ⊢
  by_cases hz : b = 10 ∧ 1 < r.length ∧ r.getD 0 0 = 48
  · rw [if_pos hz] at h; simp at h
  · rw [if_neg hz] at h ⊢
    rw [if_neg hz]
    generalize numLoop b (ints r) 95 0 0 = q at *
    cases q with
    | none => simp [readEnd] at h
    | some x =>
      obtain ⟨y, n, o⟩ := x
      unfold readEnd at h ⊢
      simp only at h ⊢
      by_cases hy : y = 95
      · rw [if_pos hy] at h; simp at h
      · rw [if_neg hy] at h ⊢
        by_cases ho : 0 < o ∨ limitOf false < n
        · rw [if_pos ho] at h; simp at h
        · have ho2 : ¬ (0 < o ∨ limitOf true < n) := by
            have l1 : limitOf false = 9223372036854775807 := rfl
            have l2 : limitOf true = 9223372036854775808 := rfl
            rw [l1] at ho
            rw [l2]
            omega
          rw [if_neg hy, if_neg ho, if_neg ho2]
          have l1 : limitOf false = 9223372036854775807 := rfl
          rw [l1] at ho
          refine ⟨rfl, rfl, ?_, ?_⟩
          · show (0 : Int) ≤ (n : Int)
            omega
          · show (n : Int) ≤ 9223372036854775807
            omega

set_option maxRecDepth 4000 in
set_option maxHeartbeats 2000000 in
theorem numSign_walk (s : ByteArray) (w : World) : Calls Tryd.prog 3 #[.string s] w (TruePost w) := by
  have hr1 := fun w => read_any s w
  unfold ReadPost at hr1
  obtain ⟨l, hl⟩ : ∃ l, l = s.data.toList := ⟨_, rfl⟩
  rw [← hl] at hr1
  have hsl : s.size = l.length := by rw [hl]; exact Lib.size_eq s
  by_cases he : (readOf l).2 = 0
  · cases l with
    | nil => exact absurd he read_nil
    | cons c t =>
      have hpos : 0 < s.size := by rw [hsl]; simp
      have hb0 : s[0]'hpos = c := by rw [byte0 s hpos, ← hl]; rfl
      have hx := UInt8.toNat_lt c
      obtain ⟨n, hn⟩ : ∃ n, n = (readOf (c :: t)).1 := ⟨_, rfl⟩
      rw [he, ← hn] at hr1
      have HR1 := Lib.hid hr1
      by_cases hc : c = 45
      · have h45 : (((s[0]'hpos).toNat : Int) == 45) = true := by rw [hb0, hc]; rfl
        clear hr1 hn he hl hsl hb0
        go_enter Tryd.func3, Tryd.ntmps3
        go_wp2_with fail
        refine (nums_any w).mono ?_
        rintro e w1 ⟨rfl, hb1⟩
        go_wp2_with fail
        refine (HR1.out w1).mono ?_
        rintro e w2 ⟨rfl, hb⟩
        have hb2 : Below w.heap.size w w2 := hb1.trans (hb.mono hb1.size)
        go_wp2
        go_ret
        exact ⟨rfl, hb2⟩
      · have h45 : (((s[0]'hpos).toNat : Int) == 45) = false := by
          rw [hb0]
          simp only [beq_eq_false_iff_ne, ne_eq]
          intro e
          apply hc
          apply UInt8.toNat_inj.1
          show c.toNat = 45
          omega
        by_cases h80 : 80 ≤ s.size
        · clear hr1 hn he hl hsl hb0
          go_enter Tryd.func3, Tryd.ntmps3
          go_wp2_with fail
          refine (nums_any w).mono ?_
          rintro e w1 ⟨rfl, hb1⟩
          go_wp2_with fail
          refine (HR1.out w1).mono ?_
          rintro e w2 ⟨rfl, hb⟩
          have hb2 : Below w.heap.size w w2 := hb1.trans (hb.mono hb1.size)
          go_wp2
          go_ret
          exact ⟨rfl, hb2⟩
        · obtain ⟨q1, q2, q3, q4⟩ := read_sign c t hc (by omega) he
          have hr2 := fun w => read_any (⟨#[45]⟩ ++ s) w
          unfold ReadPost at hr2
          have hcat : ((⟨#[45]⟩ : ByteArray) ++ s).data.toList = 45 :: c :: t := by
            rw [ByteArray.data_append, Array.toList_append, ← hl]; rfl
          rw [hcat, q1, q2, ← hn] at hr2
          rw [← hn] at q3
          rw [← hn] at q4
          have HR2 := Lib.hid hr2
          have hwr : IntKind.i64.wrap (-n) = -n := by rw [IntKind.wrap_i64]; omega
          clear hr1 hr2 hn he hl hsl hb0 q1 q2 hcat
          go_enter Tryd.func3, Tryd.ntmps3
          go_wp2_with fail
          refine (nums_any w).mono ?_
          rintro e w1 ⟨rfl, hb1⟩
          go_wp2_with fail
          refine (HR1.out w1).mono ?_
          rintro e w2 ⟨rfl, hb⟩
          have hb2 : Below w.heap.size w w2 := hb1.trans (hb.mono hb1.size)
          go_wp2_with fail
          refine (HR2.out w2).mono ?_
          rintro e w3 ⟨rfl, hb⟩
          have hb3 : Below w.heap.size w w3 := hb2.trans (hb.mono hb2.size)
          go_wp2
          go_ret
          exact ⟨by simp, hb3⟩
  · have hz := read_err l he
    rw [hz] at hr1
    obtain ⟨x, hx⟩ : ∃ x, x = (readOf l).2 := ⟨_, rfl⟩
    rw [← hx] at hr1 he
    have HR1 := Lib.hid hr1
    have hxb : (x == 0) = false := by simpa using he
    clear hr1 hz hx hl hsl
    go_enter Tryd.func3, Tryd.ntmps3
    go_wp2_with fail
    refine (nums_any w).mono ?_
    rintro e w1 ⟨rfl, hb1⟩
    go_wp2_with fail
    refine (HR1.out w1).mono ?_
    rintro e w2 ⟨rfl, hb⟩
    have hb2 : Below w.heap.size w w2 := hb1.trans (hb.mono hb1.size)
    go_wp2
    go_ret
    exact ⟨rfl, hb2⟩
end Go.Proofs.YtpoagjiknmahiaaDoor
