/-
  The contract of val.Find. No conditions.
-/
import Derived.Test.YtpjigecmnefnhaaDoorGetLaw
import Derived.Test.YtpjigecmnefnhaaDoorSix
namespace Go.Proofs.YtpjigecmnefnhaaDoor
open Go.RowKit Gx
set_option maxRecDepth 100000

theorem fidx_at {s : ByteArray} {l : List (ByteArray × V)} {k : Nat} {y : ByteArray × V} (hy : l[k]? = some y) (h : isK s y = true) (hlt : ∀ j z, j < k → l[j]? = some z → isK s z = false) : fidx s l = k := by
  obtain ⟨hk, rfl⟩ := List.getElem?_eq_some_iff.1 hy
  unfold fidx
  rw [List.findIdx_eq hk]
  exact ⟨h, fun j hj => hlt j _ hj (List.getElem?_eq_getElem (by omega))⟩
theorem fidx_no {s : ByteArray} {l : List (ByteArray × V)} (hlt : ∀ j z, j < l.length → l[j]? = some z → isK s z = false) : fidx s l = l.length := by
  unfold fidx
  rw [List.findIdx_eq_length]
  intro x hx
  obtain ⟨j, hj, rfl⟩ := List.getElem_of_mem hx
  exact hlt j _ hj (List.getElem?_eq_getElem hj)
theorem fidx_le (s : ByteArray) (l : List (ByteArray × V)) : fidx s l ≤ l.length := List.findIdx_le_length
def KeyPost (b : Bool) (w : World) (e : Ending) (w' : World) : Prop := e = .returned (.bool b) ∧ Below w.heap.size w w'
set_option maxHeartbeats 1000000 in
theorem find1_any (x : ByteArray) (k n f : Int) (t : ByteArray) (sl se : Value) (K : Nat) (s : ByteArray) (w : World) (hK : w.cell? ⟨K, 0, none⟩ = some (.string s)) (b : Bool) (hb : (x.toList == s.toList) = b) :
    Calls Tryd.prog 31 #[.agg #[.string x, .int .i64 k, .int .i64 n, .int .u64 f, .string t, sl, se], .pointer (some ⟨K, 0, none⟩)] w (KeyPost b w) := by
  have hlt := World.block_lt_of_cell? w _ hK
  have hbl := (Below.refl w.heap.size w).alloc (Nat.le_refl _) (.cells #[.string x, .int .i64 k, .int .i64 n, .int .u64 f, .string t, sl, se] 50)
  have hk1 := (hbl.cell (p := ⟨K, 0, none⟩) hlt).trans hK
  have hx1 : (w.alloc (.cells #[.string x, .int .i64 k, .int .i64 n, .int .u64 f, .string t, sl, se] 50)).cell? ⟨w.heap.size, 0, none⟩ = some (.string x) := (seven_cells (heap_alloc_new w _)).1
  have HB := Lib.hid hbl
  clear hK hlt hbl
  go_enter Tryd.func31, Tryd.ntmps31
  go_upto_region 1 with fail
  generalize hw2 : World.alloc w _ = w2 at HB hk1 hx1 ⊢
  clear hw2
  go_wp2_with fail
  try go_ret
  exact ⟨by rw [← hb]; rfl, HB.out⟩
def IdxPost (i : Nat) (n : Nat) (w : World) (e : Ending) (w' : World) : Prop := e = .returned (.int .i64 (if i < n then (i : Int) else -1)) ∧ Below w.heap.size w w'
set_option maxHeartbeats 4000000 in
theorem indexEnt_any (bd : Option Addr) (dap : Nat) (l : List (ByteArray × V)) (K : Nat) (s : ByteArray) (w : World) (h : RowAt w (fun _ => True) true l (.slice bd l.length dap)) (hK : w.cell? ⟨K, 0, none⟩ = some (.string s)) :
    Calls Tryd.prog 30 #[.slice bd l.length dap, .func (.func 31) #[] #[.pointer (some ⟨K, 0, none⟩)]] w (IdxPost (fidx s l) l.length w) := by
  have hltK := World.block_lt_of_cell? w _ hK
  have HK := Lib.hid hK
  have H := Lib.hid h
  have hbn := h.ebound
  have HNO := Lib.hid (fidx_no (s := s) (l := l))
  have HAT := Lib.hid (fun k y => fidx_at (s := s) (l := l) (k := k) (y := y))
  obtain ⟨n, hn⟩ : ∃ n, l.length = n := ⟨_, rfl⟩
  rw [hn] at hbn HNO ⊢
  have HN := Lib.hid hn
  clear h hK hn
  go_enter Tryd.func30, Tryd.ntmps30
  go_wp2_with fail
  go_loopw [5, 8] (fun _ v wr => ∃ k : Nat, k ≤ n ∧ v = .int .i64 k ∧ Hid (∀ j z, j < k → l[j]? = some z → isK s z = false) ∧ Hid (Below w.heap.size w wr)) (fun _ v _ => n - (intOf v).toNat)
  case atStart => exact ⟨0, Nat.zero_le _, rfl, Lib.hid (fun j z h => by omega), Lib.hid (Below.refl _ _)⟩
  case round =>
    obtain ⟨k, hk, rfl, HL, HB⟩ := hrel
    by_cases hlt : k < n
    · obtain ⟨x, hx⟩ : ∃ x, l[k]? = some x := ⟨_, List.getElem?_eq_getElem (by rw [HN.out]; exact hlt)⟩
      obtain ⟨b1, o1, hd1, -, hbl1, hcs1⟩ := H.out.entry (by rw [HN.out]; omega)
      subst hd1
      obtain ⟨-, gk1, q1, hq1, hv1, hg1⟩ := hcs1 k x hx
      clear hcs1
      have k1 : wr.cell? ⟨b1, o1 + k * 7, none⟩ = some (.string x.1) := (HB.out.cell (p := ⟨b1, _, none⟩) hbl1).trans gk1
      obtain ⟨c0, c1, c2, c3, c4, c5⟩ := (hg1.through (HB.out.block _ hbl1)).seven
      have hKr := (HB.out.cell (p := ⟨K, 0, none⟩) hltK).trans HK.out
      obtain ⟨b, hb⟩ : ∃ b, (x.1.toList == s.toList) = b := ⟨_, rfl⟩
      have HC := Lib.hid (find1_any x.1 q1.v.k q1.v.n q1.v.f q1.v.s (.slice q1.ad q1.v.l.length q1.cap) (.slice q1.bd q1.v.e.length q1.dap) K s wr hKr b hb)
      have HX := Lib.hid hx
      have HBB := Lib.hid hb
      have r1 : (0 : Int) ≤ (k : Int) := by omega
      have r2 : (k : Int) < (n : Int) := by omega
      clear hx hq1 hv1 hg1 gk1 hb hKr
      go_wp2_with fail
      (with_reducible refine HC.out.mono ?_)
      rintro e w2 ⟨rfl, hb2⟩
      have HB2 := Lib.hid (HB.out.trans (hb2.mono HB.out.size))
      clear hb2 c0 c1 c2 c3 c4 c5 k1
      cases b with
      | true =>
        have hf := HAT.out k x HX.out HBB.out HL.out
        go_wp2_with fail
        try go_ret
        exact ⟨by rw [hf, if_pos hlt]; rfl, HB2.out⟩
      | false =>
        have HL2 : Hid (∀ j z, j < k + 1 → l[j]? = some z → isK s z = false) := Lib.hid (fun j z hj hz => by
          by_cases e : j = k
          · subst e
            rw [HX.out] at hz
            cases hz
            exact HBB.out
          · exact HL.out j z (by omega) hz)
        go_wp2_with fail
        go_roundw
        case rel => exact ⟨k + 1, by omega, by go_num, HL2, HB2⟩
        case measure => simp [intOf]; omega
    · obtain rfl : k = n := by omega
      have hf := HNO.out HL.out
      go_wp2_with fail
      try go_ret
      exact ⟨by rw [hf, if_neg (Nat.lt_irrefl _)]; rfl, HB.out⟩
set_option maxHeartbeats 1000000 in
theorem find_any (bd : Option Addr) (dap : Nat) (l : List (ByteArray × V)) (s : ByteArray) (w : World) (h : RowAt w (fun _ => True) true l (.slice bd l.length dap)) :
    Calls Tryd.prog 24 #[.slice bd l.length dap, .string s] w (IdxPost (fidx s l) l.length w) := by
  have hbl := (Below.refl w.heap.size w).alloc (Nat.le_refl _) (.cells #[.string s] 9)
  have hs1 : (w.alloc (.cells #[.string s] 9)).cell? ⟨w.heap.size, 0, none⟩ = some (.string s) := by have := heap_alloc_new w (.cells #[.string s] 9); exact (by simp only [World.cell?, this]; rfl)
  have HC := Lib.hid (indexEnt_any bd dap l w.heap.size s _ (h.keep hbl) hs1)
  have HB := Lib.hid hbl
  obtain ⟨I, hI⟩ : ∃ I : Int, (if fidx s l < l.length then (fidx s l : Int) else -1) = I := ⟨_, rfl⟩
  unfold IdxPost at HC ⊢
  rw [hI] at HC ⊢
  clear h hs1 hbl hI
  generalize l.length = n at *
  go_enter Tryd.func24, Tryd.ntmps24
  go_upto_region 1 with fail
  generalize hw2 : World.alloc w _ = w2 at HB HC ⊢
  clear hw2
  go_wp2_with fail
  (with_reducible refine HC.out.mono ?_)
  rintro e w3 ⟨rfl, hb3⟩
  have HB3 := Lib.hid (HB.out.trans (hb3.mono HB.out.size))
  clear hb3
  go_wp2_with fail
  try go_ret
  refine ⟨?_, HB3.out⟩
  rfl
end Go.Proofs.YtpjigecmnefnhaaDoor
