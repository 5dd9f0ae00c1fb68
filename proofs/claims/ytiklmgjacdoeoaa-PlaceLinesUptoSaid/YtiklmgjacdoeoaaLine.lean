/-
  The contracts of strings.Cut at one byte, place.Line and place.At. Condition: the text has at most 1048576 bytes.
-/
import Derived.Test.YtiklmgjacdoeoaaLineLaw
import Derived.Test.YtiklmgjacdoeoaaOf
import Derived.Test.YtiklmgjacdoeoaaShelf
namespace Go.Proofs.Ytiklmgjacdoeoaa
open Go.RowKit

theorem indexByte_line (x t : List UInt8) (h : (10 : UInt8) ∉ x) : Lib.indexByte (x ++ 10 :: t) 10 = (x.length : Int) := by
  induction x with
  | nil => simp [Lib.indexByte]
  | cons b x ih =>
    have hb : (b == 10) = false := by
      simp only [beq_eq_false_iff_ne, ne_eq]
      intro e; exact h (by simp [e])
    have h2 := ih (fun h3 => h (by simp [h3]))
    rw [List.cons_append, Lib.indexByte, hb, h2]
    have : (((x.length : Nat) : Int) == -1) = false := by simp
    rw [this]
    simp
theorem indexByte_last (x : List UInt8) (h : (10 : UInt8) ∉ x) : Lib.indexByte x 10 = -1 := by
  induction x with
  | nil => rfl
  | cons b x ih =>
    have hb : (b == 10) = false := by
      simp only [beq_eq_false_iff_ne, ne_eq]
      intro e; exact h (by simp [e])
    have h2 := ih (fun h3 => h (by simp [h3]))
    rw [Lib.indexByte, hb, h2]
    rfl

def CutLine (x : List UInt8) (w : World) (e : Ending) (w' : World) : Prop :=
  ∃ b c, e = .returned (.tuple #[.string ⟨x.toArray⟩, .string b, .bool c]) ∧ Below w.heap.size w w'

theorem bytes_ext (s : ByteArray) (x : List UInt8) (h : s.data.toList = x) : s = ⟨x.toArray⟩ := by
  apply ByteArray.ext
  apply Array.toList_inj.1
  simpa using h

set_option maxHeartbeats 400000 in
theorem cutIn_line (s : ByteArray) (x : List UInt8) (w : World) (hs : s.size ≤ 1048576) (h10 : (10 : UInt8) ∉ x) (h : s.data.toList = x ∨ ∃ t, s.data.toList = x ++ 10 :: t) :
    Calls Try.prog 33 #[.string s, .string ⟨#[10]⟩] w (CutLine x w) := by
  have hix := Try.stringslite_Index_one s 10 w
  rcases h with h | ⟨t, h⟩
  · rw [h, indexByte_last x h10] at hix
    have HX := Lib.hid hix
    have HE := Lib.hid (bytes_ext s x h)
    clear hix h
    go_enter Try.func33, Try.ntmps33
    go_wp2_with fail
    refine HX.out.mono ?_
    rintro e w2 ⟨rfl, rfl⟩
    go_wp2
    go_ret3
    exact ⟨_, _, by rw [← HE.out]; rfl, Below.refl _ _⟩
  · have hl : x.length + 1 ≤ s.size := by rw [Lib.size_eq, h, List.length_append, List.length_cons]; omega
    rw [h, indexByte_line x t h10] at hix
    have hex : s.extract 0 x.length = ⟨x.toArray⟩ := bytes_ext _ _ (by rw [Lib.extract_data, List.drop_zero, Nat.sub_zero, h, List.take_left])
    obtain ⟨n, hn⟩ : ∃ n, n = x.length := ⟨_, rfl⟩
    rw [← hn] at hix hl hex
    have HX := Lib.hid hix
    have HE := Lib.hid hex
    clear hix h hn hex
    have i1 : IntKind.i64.wrap ((n : Int) + 1) = (n : Int) + 1 := by rw [IntKind.wrap_i64]; omega
    have i2 : (0 : Int) ≤ (n : Int) := by omega
    have i3 : (n : Int) ≤ (s.size : Int) := by omega
    have i4 : (n : Int) + 1 ≤ (s.size : Int) := by omega
    have i5 : (0 : Int) ≤ (n : Int) + 1 := by omega
    go_enter Try.func33, Try.ntmps33
    go_wp2_with fail
    refine HX.out.mono ?_
    rintro e w2 ⟨rfl, rfl⟩
    go_wp2
    go_quiet (fail)
    go_wp2
    go_ret3
    exact ⟨_, _, by rw [← HE.out]; rfl, Gx.drewN_below _ _ _⟩

set_option maxHeartbeats 400000 in
theorem cut_line (s : ByteArray) (x : List UInt8) (w : World) (hs : s.size ≤ 1048576) (h10 : (10 : UInt8) ∉ x) (h : s.data.toList = x ∨ ∃ t, s.data.toList = x ++ 10 :: t) :
    Calls Try.prog 25 #[.string s, .string ⟨#[10]⟩] w (CutLine x w) := by
  have HC := Lib.hid (cutIn_line s x w hs h10 h)
  clear h
  go_enter Try.func25, Try.ntmps25
  go_wp2_with fail
  refine HC.out.mono ?_
  rintro e w2 ⟨b, c, rfl, hb⟩
  go_wp2
  go_ret3
  exact ⟨b, c, rfl, hb⟩

def LinePost (x : List UInt8) (c : Int) (w : World) (e : Ending) (w' : World) : Prop := e = .returned (.tuple #[.string ⟨x.toArray⟩, .int .i64 c]) ∧ Below w.heap.size w w'

set_option maxHeartbeats 1000000 in
theorem line_ok (s : ByteArray) (i : Nat) (w : World) (hs : s.size ≤ 1048576) (hi : i < (linesOf s.data.toList).length) :
    Calls Try.prog 15 #[.string s, .int .i64 ((i : Int) + 1)] w (LinePost ((linesOf s.data.toList).getD i []) 0 w) := by
  have hlen : (startsOf s.data.toList).length = (linesOf s.data.toList).length := by rw [startsOf_lines, startsL_len]
  have hl2 : (startsOf s.data.toList).length ≤ 1048577 := by have := startsOf_len s.data.toList; simp at this; omega
  have hsi : (startsOf s.data.toList).getD i 0 = ((posL (linesOf s.data.toList) i : Nat) : Int) := by rw [startsOf_lines, startsL_at _ _ _ hi, Nat.zero_add]
  have hpl := posL_len (linesOf s.data.toList) i hi
  rw [joined_lines, ← Lib.size_eq] at hpl
  have hla := line_at (linesOf s.data.toList) i hi
  rw [joined_lines] at hla
  have h10 : (10 : UInt8) ∉ (linesOf s.data.toList).getD i [] := by
    have := linesOf_no10 s.data.toList _ (List.getElem_mem hi)
    simpa [List.getD, List.getElem?_eq_getElem hi] using this
  obtain ⟨p, hp⟩ : ∃ p, p = posL (linesOf s.data.toList) i := ⟨_, rfl⟩
  obtain ⟨x, hx⟩ : ∃ x, x = (linesOf s.data.toList).getD i [] := ⟨_, rfl⟩
  rw [← hp] at hsi hpl hla
  rw [← hx] at hpl hla h10 ⊢
  have hcut := fun w => cut_line (s.extract p s.size) x w (by simp; omega) h10 (by
    rw [Lib.extract_to_end]
    rcases hla with ⟨h, -⟩ | h
    · exact .inl h
    · exact .inr h)
  have HCUT := Lib.hid hcut
  have HS := Lib.hid (starts_any s w hs)
  have HSI := Lib.hid hsi
  obtain ⟨q, hq⟩ : ∃ q, q = (startsOf s.data.toList).length := ⟨_, rfl⟩
  have hiq : i < q := by omega
  have hq2 : q ≤ 1048577 := by omega
  unfold StartsPost at HS
  have HQ := Lib.hid hq
  clear hsi hcut hla h10 hx hp hq hlen hl2 hi
  go_enter Try.func15, Try.ntmps15
  go_wp2_with fail
  refine HS.out.mono ?_
  rintro e w1 ⟨g, cap, rfl, hg1, hg2, hg3, hg4, hb⟩
  rw [← HQ.out] at hg3 hg4 ⊢
  have hc := hg4 i hiq
  rw [HSI.out] at hc
  have i1 : IntKind.i64.wrap ((i : Int) + 1 - 1) = (i : Int) := by rw [IntKind.wrap_i64]; omega
  have i2 : ((i : Int) + 1 - 1) = (i : Int) := by omega
  have i3 : ¬ ((i : Int) + 1 < 1) := by omega
  have i4 : ¬ ((q : Int) < (i : Int) + 1) := by omega
  clear hg4
  go_wp2_with fail
  refine (HCUT.out w1).mono ?_
  rintro e w2 ⟨b, c, rfl, hb2⟩
  have hb3 := hb.trans (hb2.mono hb.size)
  go_wp2
  go_ret2
  exact ⟨rfl, hb3⟩

set_option maxHeartbeats 400000 in
theorem line_no (s : ByteArray) (n : Int) (w : World) (hs : s.size ≤ 1048576) (hn : n < 1 ∨ ((linesOf s.data.toList).length : Int) < n) :
    Calls Try.prog 15 #[.string s, .int .i64 n] w (LinePost [] 1 w) := by
  have hlen : (startsOf s.data.toList).length = (linesOf s.data.toList).length := by rw [startsOf_lines, startsL_len]
  have HS := Lib.hid (starts_any s w hs)
  unfold StartsPost at HS
  obtain ⟨q, hq⟩ : ∃ q, q = (startsOf s.data.toList).length := ⟨_, rfl⟩
  have HQ := Lib.hid hq
  have hn2 : n < 1 ∨ (q : Int) < n := by omega
  clear hlen hq hn
  by_cases h1 : n < 1
  · go_enter Try.func15, Try.ntmps15
    go_wp2_with fail
    refine HS.out.mono ?_
    rintro e w1 ⟨g, cap, rfl, hg1, hg2, hg3, hg4, hb⟩
    rw [← HQ.out] at hg3 hg4 ⊢
    clear hg4
    go_wp2
    go_ret2
    exact ⟨rfl, hb⟩
  · have h2 : (q : Int) < n := by omega
    go_enter Try.func15, Try.ntmps15
    go_wp2_with fail
    refine HS.out.mono ?_
    rintro e w1 ⟨g, cap, rfl, hg1, hg2, hg3, hg4, hb⟩
    rw [← HQ.out] at hg3 hg4 ⊢
    clear hg4
    go_wp2
    go_ret2
    exact ⟨rfl, hb⟩

def AtPost (k c : Int) (w : World) (e : Ending) (w' : World) : Prop := e = .returned (.tuple #[.int .i64 k, .int .i64 c]) ∧ Below w.heap.size w w'

set_option maxHeartbeats 1000000 in
theorem at_ok (s : ByteArray) (i c : Nat) (w : World) (hs : s.size ≤ 1048576) (hi : i < (linesOf s.data.toList).length) (hc : c ≤ ((linesOf s.data.toList).getD i []).length) :
    Calls Try.prog 13 #[.string s, .int .i64 ((i : Int) + 1), .int .i64 ((c : Int) + 1)] w (AtPost ((posL (linesOf s.data.toList) i + c : Nat) : Int) 0 w) := by
  have hlen : (startsOf s.data.toList).length = (linesOf s.data.toList).length := by rw [startsOf_lines, startsL_len]
  have hl2 : (startsOf s.data.toList).length ≤ 1048577 := by have := startsOf_len s.data.toList; simp at this; omega
  have hsi : (startsOf s.data.toList).getD i 0 = ((posL (linesOf s.data.toList) i : Nat) : Int) := by rw [startsOf_lines, startsL_at _ _ _ hi, Nat.zero_add]
  have hpl := posL_len (linesOf s.data.toList) i hi
  rw [joined_lines, ← Lib.size_eq] at hpl
  have HLN := Lib.hid (line_ok s i w hs hi)
  obtain ⟨p, hp⟩ : ∃ p, p = posL (linesOf s.data.toList) i := ⟨_, rfl⟩
  obtain ⟨x, hx⟩ : ∃ x, x = (linesOf s.data.toList).getD i [] := ⟨_, rfl⟩
  rw [← hp] at hsi hpl ⊢
  rw [← hx] at hpl hc HLN
  obtain ⟨q, hq⟩ : ∃ q, q = (startsOf s.data.toList).length := ⟨_, rfl⟩
  have hiq : i < q := by omega
  have hq2 : q ≤ 1048577 := by omega
  have HS := Lib.hid (fun w => starts_any s w hs)
  unfold LinePost at HLN
  have hxs : (⟨x.toArray⟩ : ByteArray).size = x.length := by simp [ByteArray.size]
  obtain ⟨X, hX⟩ : ∃ X : ByteArray, X = ⟨x.toArray⟩ := ⟨_, rfl⟩
  rw [← hX] at HLN hxs
  have hcX : c ≤ X.size := by omega
  have hXs : X.size ≤ 1048576 := by omega
  have HSI := Lib.hid hsi
  have HQ := Lib.hid hq
  have hps : p ≤ 1048576 := by omega
  clear hsi hp hx hq hlen hl2 hi hc hX hxs hpl
  have i1 : IntKind.i64.wrap ((i : Int) + 1 - 1) = (i : Int) := by rw [IntKind.wrap_i64]; omega
  have i2 : ((i : Int) + 1 - 1) = (i : Int) := by omega
  have i3 : ¬ ((c : Int) + 1 < 1) := by omega
  have i4 : ((c : Int) + 1 - 1) = (c : Int) := by omega
  have i5 : IntKind.i64.wrap ((c : Int) + 1 - 1) = (c : Int) := by rw [IntKind.wrap_i64]; omega
  have i6 : ¬ ((X.size : Int) < (c : Int)) := by omega
  go_enter Try.func13, Try.ntmps13
  go_wp2_with fail
  refine HLN.out.mono ?_
  rintro e w1 ⟨rfl, hb1⟩
  go_wp2_with fail
  refine (HS.out w1).mono ?_
  rintro e w2 ⟨g, cap, rfl, hg1, hg2, hg3, hg4, hb⟩
  have hb2 := hb1.trans (hb.mono hb1.size)
  rw [← HQ.out] at hg3 hg4 ⊢
  have hc := hg4 i hiq
  rw [HSI.out] at hc
  clear hg4
  go_wp2
  go_ret2
  refine ⟨?_, hb2⟩
  show Ending.returned (Value.tuple #[.int .i64 _, .int .i64 0]) = _
  congr 4
  congr 1
  omega

set_option maxHeartbeats 1000000 in
theorem at_no (s : ByteArray) (line col : Int) (w : World) (hs : s.size ≤ 1048576) (hw : col ≤ 9223372036854775807)
    (hno : ¬ ∃ i c : Nat, line = (i : Int) + 1 ∧ col = (c : Int) + 1 ∧ i < (linesOf s.data.toList).length ∧ c ≤ ((linesOf s.data.toList).getD i []).length) :
    Calls Try.prog 13 #[.string s, .int .i64 line, .int .i64 col] w (AtPost 0 1 w) := by
  by_cases hl : line < 1 ∨ ((linesOf s.data.toList).length : Int) < line
  · have HLN := Lib.hid (line_no s line w hs hl)
    unfold LinePost at HLN
    clear hno hl
    go_enter Try.func13, Try.ntmps13
    go_wp2_with fail
    refine HLN.out.mono ?_
    rintro e w1 ⟨rfl, hb1⟩
    go_wp2
    go_ret2
    exact ⟨rfl, hb1⟩
  · obtain ⟨i, rfl⟩ : ∃ i : Nat, line = (i : Int) + 1 := ⟨(line - 1).toNat, by omega⟩
    have hi : i < (linesOf s.data.toList).length := by omega
    have HLN := Lib.hid (line_ok s i w hs hi)
    have hpl := posL_len (linesOf s.data.toList) i hi
    rw [joined_lines, ← Lib.size_eq] at hpl
    obtain ⟨x, hx⟩ : ∃ x, x = (linesOf s.data.toList).getD i [] := ⟨_, rfl⟩
    have hcol : col < 1 ∨ (x.length : Int) < col - 1 := by
      rcases Int.lt_or_le col 1 with h | h
      · exact .inl h
      · right
        rcases Int.lt_or_le (x.length : Int) (col - 1) with h2 | h2
        · exact h2
        · exact absurd ⟨i, (col - 1).toNat, rfl, by omega, hi, by rw [← hx]; omega⟩ hno
    rw [← hx] at hpl HLN
    unfold LinePost at HLN
    have hxs : (⟨x.toArray⟩ : ByteArray).size = x.length := by simp [ByteArray.size]
    obtain ⟨X, hX⟩ : ∃ X : ByteArray, X = ⟨x.toArray⟩ := ⟨_, rfl⟩
    rw [← hX] at HLN hxs
    have hXs : X.size ≤ 1048576 := by omega
    rw [← hxs] at hcol
    clear hx hX hxs hpl hno hl hi
    by_cases h1 : col < 1
    · clear hcol
      go_enter Try.func13, Try.ntmps13
      go_wp2_with fail
      refine HLN.out.mono ?_
      rintro e w1 ⟨rfl, hb1⟩
      go_wp2
      go_ret2
      exact ⟨rfl, hb1⟩
    · have h2 : (X.size : Int) < col - 1 := by omega
      have h3 : IntKind.i64.wrap (col - 1) = col - 1 := by rw [IntKind.wrap_i64]; omega
      clear hcol
      go_enter Try.func13, Try.ntmps13
      go_wp2_with fail
      refine HLN.out.mono ?_
      rintro e w1 ⟨rfl, hb1⟩
      go_wp2
      go_ret2
      exact ⟨rfl, hb1⟩
end Go.Proofs.Ytiklmgjacdoeoaa
