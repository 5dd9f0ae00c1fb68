/-
  The contracts of utf.Next and utf.Bad. Conditions: Go's two tables of utf8 lie in the world; the text has at most 2^62 bytes.
-/
import Derived.Test.YtpjigecmnefnhaaDoorUtf8Law
import Derived.Test.YtpjigecmnefnhaaDoorShelf
import Derived.Lib.OthersKept
namespace Go.Proofs.YtpjigecmnefnhaaDoor
open Go.RowKit Gx

def Tabs (w : World) : Prop := Lib.Utf8Tabs 0 1 w
theorem Tabs.keep {w w' : World} (h : Tabs w) (hb : Below w.heap.size w w') : Tabs w' := Utf8Tabs_below h hb

def dec (l : List UInt8) : Nat × Nat := if l = [] then (65533, 0) else Lib.decodeL l
theorem decodeGo_dec (s : ByteArray) : Lib.decodeGo s = dec s.data.toList := by
  unfold Lib.decodeGo dec
  have h := Lib.decodeL_drop s 0
  rw [List.drop_zero] at h
  by_cases h0 : s.data.toList = []
  · rw [if_pos h0, if_pos (by rw [Lib.size_eq, h0]; rfl)]
  · rw [if_neg h0, if_neg (by rw [Lib.size_eq]; intro e; exact h0 (List.eq_nil_of_length_eq_zero e)), h]

theorem decodeL_le_len (l : List UInt8) (hne : l ≠ []) : (Lib.decodeL l).2 ≤ l.length := by
  rw [Lib.decodeL_N]
  exact Lib.decodeN_width_le _ _ _ _ _ (List.length_pos_iff.2 hne)

def NextPost (l : List UInt8) (w : World) (e : Ending) (w' : World) : Prop :=
  ∃ r : Int, e = .returned (.tuple #[.int .i32 r, .int .i64 (dec l).2]) ∧ Below w.heap.size w w'

theorem decodeL_le4 (l : List UInt8) : (Lib.decodeL l).2 ≤ 4 := by
  rw [Lib.decodeL_N]
  unfold Lib.decodeN
  repeat' split
  all_goals (simp only; omega)

set_option maxHeartbeats 400000 in
theorem next_any (s : ByteArray) (w : World) (hT : Tabs w) : Calls Tryd.prog 23 #[.string s] w (NextPost s.data.toList w) := by
  have hc := Tryd.utf8_DecodeRuneInString s w hT
  rw [decodeGo_dec] at hc
  obtain ⟨r, hr⟩ : ∃ r, r = (dec s.data.toList).1 := ⟨_, rfl⟩
  obtain ⟨n, hn⟩ : ∃ n, n = (dec s.data.toList).2 := ⟨_, rfl⟩
  rw [← hr, ← hn] at hc
  have HC := Lib.hid hc
  have HN := Lib.hid hn
  clear hc hr hn
  by_cases h1 : r = 65533
  · subst h1
    by_cases h2 : n < 2
    · go_enter Tryd.func23, Tryd.ntmps23
      go_wp2_with fail
      refine HC.out.mono ?_
      rintro e w2 ⟨rfl, hb⟩
      go_wp2
      go_ret2
      exact ⟨-1, by rw [← HN.out]; rfl, hb⟩
    · go_enter Tryd.func23, Tryd.ntmps23
      go_wp2_with fail
      refine HC.out.mono ?_
      rintro e w2 ⟨rfl, hb⟩
      go_wp2
      go_ret2
      exact ⟨_, by rw [← HN.out]; rfl, hb⟩
  · go_enter Tryd.func23, Tryd.ntmps23
    go_wp2_with fail
    refine HC.out.mono ?_
    rintro e w2 ⟨rfl, hb⟩
    go_wp2
    go_ret2
    exact ⟨_, by rw [← HN.out]; rfl, hb⟩

/-- the rune; -1: there is none -/
def nextR (l : List UInt8) : Int := if (dec l).1 = 65533 ∧ (dec l).2 < 2 then -1 else ((dec l).1 : Int)
def NextFull (l : List UInt8) (w : World) (e : Ending) (w' : World) : Prop :=
  e = .returned (.tuple #[.int .i32 (nextR l), .int .i64 (dec l).2]) ∧ Below w.heap.size w w'
set_option maxHeartbeats 400000 in
theorem next_full (s : ByteArray) (w : World) (hT : Tabs w) : Calls Tryd.prog 23 #[.string s] w (NextFull s.data.toList w) := by
  have hc := Tryd.utf8_DecodeRuneInString s w hT
  rw [decodeGo_dec] at hc
  obtain ⟨r, hr⟩ : ∃ r, r = (dec s.data.toList).1 := ⟨_, rfl⟩
  obtain ⟨n, hn⟩ : ∃ n, n = (dec s.data.toList).2 := ⟨_, rfl⟩
  rw [← hr, ← hn] at hc
  have hf : nextR s.data.toList = if r = 65533 ∧ n < 2 then -1 else (r : Int) := by unfold nextR; rw [← hr, ← hn]
  have HC := Lib.hid hc
  have HN := Lib.hid hn
  have HF := Lib.hid hf
  clear hf
  clear hc hr hn
  by_cases h1 : r = 65533
  · subst h1
    by_cases h2 : n < 2
    · have FX := Lib.hid (HF.out.trans (if_pos ⟨rfl, h2⟩))
      go_enter Tryd.func23, Tryd.ntmps23
      go_wp2_with fail
      refine HC.out.mono ?_
      rintro e w2 ⟨rfl, hb⟩
      go_wp2
      go_ret2
      exact ⟨by rw [← HN.out, FX.out]; rfl, hb⟩
    · have FX := Lib.hid (HF.out.trans (if_neg (fun h => h2 h.2)))
      go_enter Tryd.func23, Tryd.ntmps23
      go_wp2_with fail
      refine HC.out.mono ?_
      rintro e w2 ⟨rfl, hb⟩
      go_wp2
      go_ret2
      exact ⟨by rw [← HN.out, FX.out]; rfl, hb⟩
  · have FX := Lib.hid (HF.out.trans (if_neg (fun h => h1 h.1)))
    go_enter Tryd.func23, Tryd.ntmps23
    go_wp2_with fail
    refine HC.out.mono ?_
    rintro e w2 ⟨rfl, hb⟩
    go_wp2
    go_ret2
    exact ⟨by rw [← HN.out, FX.out]; rfl, hb⟩

def BadPost (l : List UInt8) (w : World) (e : Ending) (w' : World) : Prop :=
  ∃ i : Int, e = .returned (.int .i64 i) ∧ (i < 0 ↔ okText l) ∧ Below w.heap.size w w'

theorem drop_ne {l : List UInt8} {p : Nat} (h : p < l.length) : l.drop p ≠ [] := by
  intro e
  have := congrArg List.length e
  simp at this
  omega

set_option maxHeartbeats 1000000 in
theorem bad_any (s : ByteArray) (w : World) (hT : Tabs w) (hs : s.size ≤ 4611686018427387904) : Calls Tryd.prog 15 #[.string s] w (BadPost s.data.toList w) := by
  have hsl := Lib.size_eq s
  obtain ⟨l, hl⟩ : ∃ l, l = s.data.toList := ⟨_, rfl⟩
  rw [← hl] at hsl ⊢
  have HL := Lib.hid hl
  have HSL := Lib.hid hsl
  have HT := Lib.hid hT
  clear hl hsl hT
  go_enter Tryd.func15, Tryd.ntmps15
  go_wp2
  go_loopw [] (fun wr => ∃ pos : Nat, wr.heap[w.heap.size]? = some (.stringIter s pos) ∧ Below w.heap.size w wr ∧ Hid (okText (l.drop pos) ↔ okText l) ∧ pos ≤ s.size) (fun wr => s.size - wr.iterPos w.heap.size)
  case atStart =>
    refine ⟨0, World.iter_heap w s 0, (Below.refl _ w).alloc (Nat.le_refl _) _, ?_, Nat.zero_le _⟩
    show _ ↔ _
    rw [List.drop_zero]
  case round =>
    obtain ⟨pos, hit, hbw, hok, hps⟩ := hrel
    have hsz : w.heap.size < wr.heap.size := (Array.getElem?_eq_some_iff.1 hit).1
    by_cases hp : pos < s.size
    · have hnx : ∀ ty, (Instr.next (.pointer (some ⟨w.heap.size, 0, none⟩)) true ty).run Tryd.prog wr = _ := fun ty => Lib.run_next_any_at wr w.heap.size s pos ty hit hp
      have hdd := Lib.decodeL_drop s pos
      rw [← HL.out] at hdd
      rw [← hdd] at hnx
      have hne : l.drop pos ≠ [] := drop_ne (by have := HSL.out; omega)
      have hd1 := decodeL_pos (l.drop pos)
      have hd4 : pos + (Lib.decodeL (l.drop pos)).2 ≤ s.size := by
        have h5 := decodeL_le_len (l.drop pos) hne
        rw [List.length_drop, ← HSL.out] at h5
        omega
      have hst := okText_step (l.drop pos) hne
      rw [hok.out, List.drop_drop] at hst
      obtain ⟨r, hr⟩ : ∃ r, r = (Lib.decodeL (l.drop pos)).1 := ⟨_, rfl⟩
      obtain ⟨n, hn⟩ : ∃ n, n = (Lib.decodeL (l.drop pos)).2 := ⟨_, rfl⟩
      have hpair : Lib.decodeL (l.drop pos) = (r, n) := by rw [hr, hn]
      rw [← hr, ← hn] at hnx
      rw [← hn] at hd1 hd4
      rw [hpair] at hst
      have hdec : dec (l.drop pos) = (r, n) := by unfold dec; rw [if_neg hne, hpair]
      have hit2 := Lib.iterAt_heap wr w.heap.size s pos (pos + n) hit
      have hbw2 := Lib.below_iterAt hbw (k := w.heap.size) (Nat.le_refl _) s (pos + n)
      have hsz2 : w.heap.size < (wr.iterAt w.heap.size s (pos + n)).heap.size := by rw [Lib.iterAt_size]; exact hsz
      have HST := Lib.hid hst
      have HDEC := Lib.hid hdec
      clear hst hdec hpair hr hn hne hdd
      by_cases h1 : r = 65533
      · subst h1
        obtain ⟨w1, hw1⟩ : ∃ w1, w1 = wr.iterAt w.heap.size s (pos + n) := ⟨_, rfl⟩
        rw [← hw1] at hit2 hbw2 hsz2
        have HX := Lib.hid (next_any (s.extract pos s.size) w1 (HT.out.keep hbw2))
        unfold NextPost at HX
        rw [Lib.extract_to_end, ← HL.out, HDEC.out] at HX
        have HW := Lib.hid hw1
        by_cases h2 : n = 1
        · subst h2
          go_wp2_with fail
          rw [← HW.out]
          refine HX.out.mono ?_
          rintro e w2 ⟨r2, rfl, hb⟩
          have hb2 : Below w.heap.size w w2 := hbw2.trans (hb.mono (by omega))
          go_wp2
          go_ret
          refine ⟨(pos : Int), rfl, ⟨fun h => by omega, fun h => ?_⟩, hb2⟩
          exact absurd rfl (HST.out.1 h).1
        · have hb2 : ((n : Int) == 1) = false := by simp; omega
          have hn1 : ((65533, n) : Nat × Nat) ≠ (65533, 1) := by intro e; exact h2 (Prod.mk.inj e).2
          go_wp2_with fail
          rw [← HW.out]
          refine HX.out.mono ?_
          rintro e w2 ⟨r2, rfl, hb⟩
          have hb3 : Below w.heap.size w w2 := hbw2.trans (hb.mono (by omega))
          have hit3 : w2.heap[w.heap.size]? = some (.stringIter s (pos + n)) := by rw [hb.block _ hsz2]; exact hit2
          have hok2 : Hid (okText (l.drop (pos + n)) ↔ okText l) := by
            show _ ↔ _
            rw [HST.out]; exact ⟨fun h => ⟨hn1, h⟩, fun h => h.2⟩
          clear hb hit2 hbw2
          go_wp2
          go_roundw
          case rel => exact ⟨pos + n, hit3, hb3, hok2, hd4⟩
          case measure =>
            simp only [World.iterPos, hit3, hit]
            omega
      · have hn1 : ((r, n) : Nat × Nat) ≠ (65533, 1) := by intro e; exact h1 (Prod.mk.inj e).1
        have hok2 : Hid (okText (l.drop (pos + n)) ↔ okText l) := by
          show _ ↔ _
          rw [HST.out]; exact ⟨fun h => ⟨hn1, h⟩, fun h => h.2⟩
        have hr2 : ((r : Int) == 65533) = false := by simp; omega
        go_wp2
        go_roundw
        case rel => exact ⟨pos + n, hit2, hbw2, hok2, hd4⟩
        case measure =>
          simp only [World.iterPos, hit2, hit]
          omega
    · have hnx : ∀ ty, (Instr.next (.pointer (some ⟨w.heap.size, 0, none⟩)) true ty).run Tryd.prog wr = _ := fun ty => Lib.run_next_end_at wr w.heap.size s pos ty hit hp
      have hfin : okText l := by
        rw [← hok.out, List.drop_eq_nil_of_le (by have := HSL.out; omega)]; exact okText_nil
      go_wp2
      go_ret
      exact ⟨-1, rfl, ⟨fun _ => hfin, fun _ => by omega⟩, hbw⟩
end Go.Proofs.YtpjigecmnefnhaaDoor
