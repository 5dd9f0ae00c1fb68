/-
  The contract of strings.IndexAny of any text at the two signs of a path. No conditions but the text's size.
-/
import Derived.Test.YtopfkelhgffomaaDoorPathRune
import Derived.Test.YtopfkelhgffomaaDoorPathCut
import Derived.Test.YtopfkelhgffomaaDoorUtf8Walk
import Derived.Lib.MapLaws
import Derived.Lib.TrimAscii
import Derived.Lib.AsciiSet
import Derived.Shelf.Strings.IndexAnyAll
namespace Go.Proofs.YtopfkelhgffomaaDoor
open Go.RowKit Gx
set_option maxRecDepth 1000000

def idxEnd (l : List UInt8) : Int := if findB isEnd l < l.length then ((findB isEnd l : Nat) : Int) else -1
def IdxP (x : Int) (w : World) (e : Ending) (w' : World) : Prop := e = .returned (.int .i64 x) ∧ Below w.heap.size w w'
theorem idx_hit {l : List UInt8} {i : Nat} (h : ∀ c ∈ l.take i, isEnd c = false) (c : UInt8) (hc : l[i]? = some c) (he : isEnd c = true) : idxEnd l = (i : Int) := by
  obtain ⟨hi, hc'⟩ := List.getElem?_eq_some_iff.1 hc
  have e : findB isEnd l = i := by
    have := findB_skip isEnd (l.take i) (l.drop i) h (fun d hd => by
      rw [List.head?_drop, hc] at hd
      cases hd
      exact he)
    rw [List.take_append_drop, List.length_take] at this
    omega
  unfold idxEnd
  rw [e, if_pos hi]
theorem idx_none {l : List UInt8} (h : ∀ c ∈ l, isEnd c = false) : idxEnd l = -1 := by
  have := findB_skip isEnd l [] h (fun d hd => by cases hd)
  rw [List.append_nil] at this
  unfold idxEnd
  rw [this, if_neg (by omega)]
theorem take_next {l : List UInt8} {i : Nat} {c : UInt8} (h : ∀ c ∈ l.take i, isEnd c = false) (hc : l[i]? = some c) (he : isEnd c = false) : ∀ c ∈ l.take (i + 1), isEnd c = false := by
  obtain ⟨hj, rfl⟩ := List.getElem?_eq_some_iff.1 hc
  rw [List.take_succ_eq_append_getElem hj]
  intro x hx
  rcases List.mem_append.1 hx with hx | hx
  · exact h x hx
  · rw [List.mem_singleton.1 hx]; exact he
theorem take_more {l : List UInt8} {i n : Nat} (h : ∀ c ∈ l.take i, isEnd c = false) (he : ∀ c ∈ (l.drop i).take n, isEnd c = false) : ∀ c ∈ l.take (i + n), isEnd c = false := by
  rw [List.take_add]
  intro x hx
  rcases List.mem_append.1 hx with hx | hx
  · exact h x hx
  · exact he x hx
theorem far_bytes (r : Int) (h : 128 ≤ r) : ∀ c ∈ Lib.encodeRune r, isEnd c = false := by
  intro c hc
  unfold Lib.encodeRune Lib.encodeRuneZ at hc
  rw [if_neg (by omega)] at hc
  have key : ∀ x : Int, 128 ≤ x → x < 256 → isEnd (x.toNat.toUInt8) = false := by
    intro x h1 h2
    have hn : (x.toNat.toUInt8).toNat = x.toNat := by
      simp
      omega
    unfold isEnd
    rw [decide_eq_false, decide_eq_false]; rfl
    all_goals (intro e; rw [e] at hn; simp at hn; omega)
  split at hc
  · simp at hc; rcases hc with rfl | rfl <;> exact key _ (by omega) (by omega)
  · split at hc
    · simp at hc; rcases hc with rfl | rfl | rfl <;> exact key _ (by omega) (by omega)
    · split at hc
      · simp at hc; rcases hc with rfl | rfl | rfl | rfl <;> exact key _ (by omega) (by omega)
      · simp at hc; rcases hc with rfl | rfl | rfl <;> decide
theorem decodeN_far (n b0 b1 b2 b3 : Nat) (h : 128 ≤ b0) : 128 ≤ (Lib.decodeN n b0 b1 b2 b3).1 ∧ ((Lib.decodeN n b0 b1 b2 b3).1 = 65533 ∨ ((Lib.decodeN n b0 b1 b2 b3).1 ≤ 1114111 ∧ ((Lib.decodeN n b0 b1 b2 b3).1 < 55296 ∨ 57343 < (Lib.decodeN n b0 b1 b2 b3).1))) := by
  unfold Lib.decodeN
  rw [if_neg (by omega)]
  split
  · split
    · refine ⟨by omega, .inr ⟨by show _ ≤ _; omega, .inl (by show _ < _; omega)⟩⟩
    · exact ⟨by decide, .inl rfl⟩
  · split
    · split
      · rename_i h3
        refine ⟨by show 128 ≤ _; omega, .inr ⟨by show _ ≤ _; omega, ?_⟩⟩
        show _ < _ ∨ _ < _
        omega
      · exact ⟨by decide, .inl rfl⟩
    · split
      · split
        · rename_i h4
          refine ⟨by show 128 ≤ _; omega, .inr ⟨by show _ ≤ _; omega, ?_⟩⟩
          show _ < _ ∨ _ < _
          omega
        · exact ⟨by decide, .inl rfl⟩
      · exact ⟨by decide, .inl rfl⟩
/-- a rune's bytes, at a text's front: one byte below 128, or none of them a sign -/
theorem front_rune (b : UInt8) (t : List UInt8) : (b.toNat < 128 ∧ Lib.decodeL (b :: t) = (b.toNat, 1)) ∨ (128 ≤ b.toNat ∧ 128 ≤ (Lib.decodeL (b :: t)).1 ∧ (∀ c ∈ (b :: t).take (Lib.decodeL (b :: t)).2, isEnd c = false) ∧
    ((Lib.decodeL (b :: t)).1 = 65533 ∨ ((Lib.decodeL (b :: t)).1 ≤ 1114111 ∧ ((Lib.decodeL (b :: t)).1 < 55296 ∨ 57343 < (Lib.decodeL (b :: t)).1)))) := by
  by_cases hb : b.toNat < 128
  · exact .inl ⟨hb, Lib.decodeL_ascii b t hb⟩
  · have hn := decodeN_far (b :: t).length b.toNat ((b :: t).getD 1 0).toNat ((b :: t).getD 2 0).toNat ((b :: t).getD 3 0).toNat (by omega)
    have e : Lib.decodeL (b :: t) = Lib.decodeN (b :: t).length b.toNat ((b :: t).getD 1 0).toNat ((b :: t).getD 2 0).toNat ((b :: t).getD 3 0).toNat := Lib.decodeL_N _
    rw [← e] at hn
    refine .inr ⟨by omega, hn.1, ?_, hn.2⟩
    by_cases hv : (Lib.decodeL (b :: t)).1 = 65533 ∧ (Lib.decodeL (b :: t)).2 = 1
    · rw [hv.2]
      intro c hc
      have : c = b := by simpa using hc
      subst this
      unfold isEnd
      rw [decide_eq_false, decide_eq_false]; rfl
      all_goals (rintro rfl; revert hb; decide)
    · rw [← Lib.encode_decode _ (by simp) hv]
      exact far_bytes _ (by have := hn.1; omega)

set_option maxHeartbeats 8000000 in
theorem any_long (s : ByteArray) (w : World) (h8 : 8 < s.size) (hs : s.size ≤ 4611686018427387904) : Calls Tryd.prog 21 #[.string s, .string ⟨#[46, 91]⟩] w (IdxP (idxEnd s.data.toList) w) := by
  have hz : (Tryd.prog.info? 68).map (fun i => (i.zero, i.size)) = some (some (.agg (Array.replicate 256 (.bool false))), 256) := by kernel_rfl
  have hv := (zero_of_info hz).1
  have hM := Lib.hid (Tryd.strings_makeASCIISet hv ⟨#[46, 91]⟩ w (by decide) (fun j b hb => by
    match j with
    | 0 => cases hb; decide
    | 1 => cases hb; decide
    | j + 2 => simp at hb))
  have hU := Lib.hid (Tryd.strings_shouldUseASCIISet s.size)
  have h8z : decide ((8 : Int) < (s.size : Int)) = true := decide_eq_true (by omega)
  rw [h8z] at hU
  rw [show (⟨#[46, 91]⟩ : ByteArray).data.toList = [46, 91] from rfl] at hM
  have hsc := run_storeCells_new (P := Tryd.prog) (w.alloc (.cells (Lib.setCells [46, 91]) 68)) 68 (Array.replicate 256 (.bool false)) (Lib.setCells [46, 91]) (by rw [Lib.setCells_size]; exact (zero_of_info hz).2) (by rw [Lib.setCells_size, Array.size_replicate]) (Lib.setCells_one _)
  simp at hsc
  have hcell : ∀ x : UInt8, ((w.alloc (.cells (Lib.setCells [46, 91]) 68)).alloc (.cells (Lib.setCells [46, 91]) 68)).cell? ⟨w.heap.size + 1, x.toNat, none⟩ = some (.bool (isEnd x)) := fun x => by
    rw [World.cell?_alloc_at _ _ _ _ (by simp), Lib.setCells_at]
    simp [isEnd]
  have hbel : Below w.heap.size w ((w.alloc (.cells (Lib.setCells [46, 91]) 68)).alloc (.cells (Lib.setCells [46, 91]) 68)) := ((Below.refl _ _).alloc (Nat.le_refl _) _).alloc (by simp) _
  have hsz := Lib.setCells_size [46, 91]
  have hL := Lib.size_eq s
  have HC := Lib.hid hcell
  have HB := Lib.hid hbel
  have HL := Lib.hid hL
  clear hcell hbel hz hL
  go_enter Tryd.func21, Tryd.ntmps21
  go_wp2_with fail
  refine (hU.out _).mono ?_
  rintro e0 w1 ⟨rfl, rfl⟩
  go_wp2_with fail
  refine hM.out.mono ?_
  rintro e0 w1 ⟨rfl, rfl⟩
  go_wp2_with fail
  clear hsc hv hM hU
  go_loopg [8] s.size (fun g s8 wx => ∃ i : Nat, i + g = s.size ∧ s8 = .int .i64 i ∧ wx = ((w1.alloc (.cells (Lib.setCells [46, 91]) 68)).alloc (.cells (Lib.setCells [46, 91]) 68)) ∧ Hid (∀ c ∈ s.data.toList.take i, isEnd c = false))
  case atStart => exact ⟨0, by omega, rfl, rfl, fun c hc => by simp at hc⟩
  case round =>
    obtain ⟨i, hig, rfl, rfl, hno⟩ := hrel
    cases gk with
    | zero =>
      obtain rfl : i = s.size := by omega
      go_wp2_with fail
      try go_ret
      exact ⟨by rw [idx_none (fun c hc => hno.out c (by rw [List.take_of_length_le (by rw [HL.out]; exact Nat.le_refl _)]; exact hc))]; rfl, HB.out⟩
    | succ g =>
      have hi : i < s.size := by omega
      have hiz : (i : Int) < (s.size : Int) := by omega
      obtain ⟨x, hx⟩ : ∃ x : UInt8, s[i]'hi = x := ⟨_, rfl⟩
      have hxl : s.data.toList[i]? = some x := by rw [← hx]; exact Lib.data_getElem? s i hi
      have HX := Lib.hid hxl
      clear hxl
      have hcx := Lib.hid (Tryd.asciiSet_contains _ x _ _ (HC.out x))
      cases hin : isEnd x <;> rw [hin] at hcx
      · have HE := Lib.hid hin
        clear hin
        go_wp2_with fail
        refine hcx.out.mono ?_
        rintro e0 w2 ⟨rfl, rfl⟩
        go_wp2_with fail
        go_roundg g
        case measure => omega
        case rel => exact ⟨i + 1, by omega, by first | rfl | simp, rfl, take_next hno.out HX.out HE.out⟩
      · have HE := Lib.hid hin
        clear hin
        go_wp2_with fail
        refine hcx.out.mono ?_
        rintro e0 w2 ⟨rfl, rfl⟩
        go_wp2_with fail
        try go_ret
        exact ⟨by rw [idx_hit hno.out x HX.out HE.out]; rfl, HB.out⟩

set_option maxHeartbeats 8000000 in
theorem any_short (s : ByteArray) (w : World) (h8 : s.size ≤ 8) : Calls Tryd.prog 21 #[.string s, .string ⟨#[46, 91]⟩] w (IdxP (idxEnd s.data.toList) w) := by
  have hU := Lib.hid (Tryd.strings_shouldUseASCIISet s.size)
  have h8z : decide ((8 : Int) < (s.size : Int)) = false := decide_eq_false (by omega)
  rw [h8z] at hU
  have hL := Lib.size_eq s
  have HL := Lib.hid hL
  clear hL
  go_enter Tryd.func21, Tryd.ntmps21
  go_wp2_with fail
  refine (hU.out _).mono ?_
  rintro e0 w1 ⟨rfl, rfl⟩
  go_wp2_with fail
  clear hU
  go_loopw [9, 10] (fun _ _ wr => ∃ pos : Nat, wr.heap[w1.heap.size]? = some (.stringIter s pos) ∧ Below w1.heap.size w1 wr ∧ Hid (∀ c ∈ s.data.toList.take pos, isEnd c = false) ∧ pos ≤ s.size) (fun _ _ wr => s.size - wr.iterPos w1.heap.size)
  case atStart =>
    refine ⟨0, World.iter_heap w1 s 0, (Below.refl _ w1).alloc (Nat.le_refl _) _, fun c hc => by simp at hc, Nat.zero_le _⟩
  case round =>
    obtain ⟨pos, hit, hbw, hok, hps⟩ := hrel
    have hsz : w1.heap.size < wr.heap.size := (Array.getElem?_eq_some_iff.1 hit).1
    by_cases hp : pos < s.size
    · have hnx : ∀ ty, (Instr.next (.pointer (some ⟨w1.heap.size, 0, none⟩)) true ty).run Tryd.prog wr = _ := fun ty => Lib.run_next_any_at wr w1.heap.size s pos ty hit hp
      have hdd := Lib.decodeL_drop s pos
      rw [← hdd] at hnx
      have hdr := drop_cons s pos hp
      have hd1 := decodeL_pos (s.data.toList.drop pos)
      have hd4 : pos + (Lib.decodeL (s.data.toList.drop pos)).2 ≤ s.size := by
        have h5 := decodeL_le_len (s.data.toList.drop pos) (drop_ne (by have := HL.out; omega))
        rw [List.length_drop, ← HL.out] at h5
        omega
      have hfr := front_rune s[pos] (s.data.toList.drop (pos + 1))
      rw [← hdr] at hfr
      have hxl : s.data.toList[pos]? = some s[pos] := Lib.data_getElem? s pos hp
      obtain ⟨r, hr⟩ : ∃ r, r = (Lib.decodeL (s.data.toList.drop pos)).1 := ⟨_, rfl⟩
      obtain ⟨n, hn⟩ : ∃ n, n = (Lib.decodeL (s.data.toList.drop pos)).2 := ⟨_, rfl⟩
      have hpair : Lib.decodeL (s.data.toList.drop pos) = (r, n) := by rw [hr, hn]
      rw [← hr, ← hn] at hnx
      rw [← hn] at hd1 hd4
      rw [hpair] at hfr
      have hit2 := Lib.iterAt_heap wr w1.heap.size s pos (pos + n) hit
      have hbw2 := Lib.below_iterAt hbw (k := w1.heap.size) (Nat.le_refl _) s (pos + n)
      have hsz2 : w1.heap.size < (wr.iterAt w1.heap.size s (pos + n)).heap.size := by rw [Lib.iterAt_size]; exact hsz
      obtain ⟨x, hx⟩ : ∃ x, x = s[pos] := ⟨_, rfl⟩
      rw [← hx] at hfr hxl
      have HX := Lib.hid hxl
      obtain ⟨w3, hw3⟩ : ∃ w3, w3 = wr.iterAt w1.heap.size s (pos + n) := ⟨_, rfl⟩
      rw [← hw3] at hit2 hbw2 hsz2
      have HW := Lib.hid hw3
      clear hpair hr hn hdd hdr hxl hx hw3
      rcases hfr with ⟨hb, hpq⟩ | ⟨hb, hr1, hn1, hr2⟩
      · simp only [Prod.mk.injEq] at hpq
        obtain ⟨rfl, rfl⟩ := hpq
        have HI := Lib.hid (Tryd.strings_IndexRune_ascii ⟨#[46, 91]⟩ (x.toNat : Int) w3 (by omega) (by omega))
        rw [show ((x.toNat : Int)).toNat.toUInt8 = x by simp] at HI
        cases hin : isEnd x
        · have hneg : Lib.indexByte (⟨#[46, 91]⟩ : ByteArray).data.toList x = -1 := by
            have : (x == 46) = false ∧ (x == 91) = false := by
              unfold isEnd at hin
              simp at hin
              simp [hin]
            have h1 : (46 == x) = false := by rw [beq_eq_false_iff_ne]; intro e; subst e; simp at this
            have h2 : (91 == x) = false := by rw [beq_eq_false_iff_ne]; intro e; subst e; simp at this
            show Lib.indexByte [46, 91] x = -1
            simp [Lib.indexByte, h1, h2]
          rw [hneg] at HI
          have HN := Lib.hid (take_next hok.out HX.out hin)
          clear hin hneg
          go_wp2_with fail
          rw [← HW.out]
          refine HI.out.mono ?_
          rintro e w2 ⟨rfl, rfl⟩
          clear hb
          go_wp2_with fail
          go_roundw
          case rel => exact ⟨pos + 1, hit2, hbw2, HN.out, hd4⟩
          case measure =>
            simp only [World.iterPos, hit2, hit]
            omega
        · have hge : ∃ k : Nat, Lib.indexByte (⟨#[46, 91]⟩ : ByteArray).data.toList x = (k : Int) := by
            have : x = 46 ∨ x = 91 := by
              unfold isEnd at hin
              simpa using hin
            rcases this with rfl | rfl
            · exact ⟨0, rfl⟩
            · exact ⟨1, rfl⟩
          obtain ⟨k, hk⟩ := hge
          rw [hk] at HI
          have HE := Lib.hid (idx_hit hok.out x HX.out hin)
          have k0 : decide ((0 : Int) ≤ (k : Int)) = true := decide_eq_true (by omega)
          clear hin hk
          go_wp2_with fail
          rw [← HW.out]
          refine HI.out.mono ?_
          rintro e w2 ⟨rfl, rfl⟩
          clear hb
          go_wp2_with fail
          try go_ret
          exact ⟨by rw [HE.out]; rfl, hbw2⟩
      · have HN := Lib.hid (take_more hok.out hn1)
        have HI : Hid (Calls Tryd.prog 33 #[.string ⟨#[46, 91]⟩, .int .i32 (r : Int)] w3 (NegP w3)) := by
          by_cases h : r = 65533
          · subst h; exact irune_bad w3
          · exact irune_far (r : Int) (by simp only at hr1; omega) (by simp only at hr2; omega) (by simp only at hr2; omega) (by omega) w3
        unfold NegP at HI
        clear hr1 hn1 hr2 hb
        go_wp2_with fail
        rw [← HW.out]
        refine HI.out.mono ?_
        rintro e w2 ⟨rfl, hb⟩
        have hb3 : Below w1.heap.size w1 w2 := hbw2.trans (hb.mono (by omega))
        have hit3 : w2.heap[w1.heap.size]? = some (.stringIter s (pos + n)) := by rw [hb.block _ hsz2]; exact hit2
        clear hb hit2 hbw2
        go_wp2_with fail
        go_roundw
        case rel => exact ⟨pos + n, hit3, hb3, HN.out, hd4⟩
        case measure =>
          simp only [World.iterPos, hit3, hit]
          omega
    · have hnx : ∀ ty, (Instr.next (.pointer (some ⟨w1.heap.size, 0, none⟩)) true ty).run Tryd.prog wr = _ := fun ty => Lib.run_next_end_at wr w1.heap.size s pos ty hit hp
      obtain rfl : pos = s.size := by omega
      have HE := Lib.hid (idx_none (l := s.data.toList) (fun c hc => hok.out c (by rw [List.take_of_length_le (by rw [HL.out]; exact Nat.le_refl _)]; exact hc)))
      go_wp2_with fail
      try go_ret
      exact ⟨by rw [HE.out]; rfl, hbw⟩
theorem any_any (s : ByteArray) (w : World) (hs : s.size ≤ 4611686018427387904) : Calls Tryd.prog 21 #[.string s, .string ⟨#[46, 91]⟩] w (IdxP (idxEnd s.data.toList) w) := by
  by_cases h : 8 < s.size
  · exact any_long s w h hs
  · exact any_short s w (by omega)
end Go.Proofs.YtopfkelhgffomaaDoor
