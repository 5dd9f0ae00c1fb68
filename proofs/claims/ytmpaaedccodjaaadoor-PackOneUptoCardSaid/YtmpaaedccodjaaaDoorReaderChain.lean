/-
  The contract of the reader's chain. No conditions.
-/
import Derived.Test.YtmpaaedccodjaaaDoorReader2
import Derived.Test.YtmpaaedccodjaaaDoorBld
namespace Go.Proofs.YtmpaaedccodjaaaDoor
open Go.RowKit Gx
set_option maxRecDepth 100000

def byteOf (x : Int) : UInt8 := UInt8.ofNat x.toNat
theorem strOf_eq (a : List Int) : strOf a = ⟨(a.map byteOf).toArray⟩ := rfl
theorem u8_int {x : Int} (h0 : 0 ≤ x) (h1 : x ≤ 255) : (((byteOf x).toNat : Nat) : Int) = x := by
  unfold byteOf
  rw [UInt8.toNat_ofNat']
  omega
/-- where the reader was bad from the start there is none -/
def orBad {α : Type} (bad : Bool) (o : Option α) : Option α := if bad then none else o
/-- what a call is told by that reads a thing: it reads what is told, or the reader is bad -/
def Told {α : Type} (o : Option (α × List Int)) (x : α) (l' : List Int) (bad' : Bool) : Prop :=
  match o with
  | some r => x = r.1 ∧ l' = r.2 ∧ bad' = false
  | none => bad' = true
def ChainPost (n₀ R : Nat) (l : List Int) (bad : Bool) (w : World) (e : Ending) (w' : World) : Prop :=
  ∃ t l' bad', e = .returned (.string (strOf t)) ∧ RdS n₀ w' R l' bad' ∧ w.grownBy w' (some R) ∧ Told (orBad bad (pchain l)) t l' bad' ∧ t.length ≤ l.length ∧ l'.length ≤ l.length
/-- how many bytes are left, read off the world -/
def leftAt (w : World) (R : Nat) : Nat := match w.cell? ⟨R, 0, none⟩ with | some (.slice _ n _) => n | _ => 0
theorem RdS.left {n₀ R : Nat} {w : World} {l : List Int} {bad : Bool} (h : RdS n₀ w R l bad) : leftAt w R = l.length := by
  obtain ⟨ad, c, h1, _⟩ := h.cells
  unfold leftAt; rw [h1]
theorem grown_below' {w w1 w2 : World} {R : Nat} (h : w.grownBy w1 (some R)) (hb : Below w.heap.size w1 w2) : w.grownBy w2 (some R) :=
  ⟨hb.os.trans h.os, hb.tape.trans h.tape, hb.output.trans h.output, Nat.le_trans h.size hb.size, fun i hi hne => (hb.block i hi).trans (h.block i hi hne)⟩
theorem RdS.keepB {n₀ R B : Nat} {w w' : World} {l : List Int} {bad : Bool} (h : RdS n₀ w R l bad) (hb : Below B w w') (hB : n₀ ≤ B) : RdS n₀ w' R l bad := by
  obtain ⟨⟨ad, c, h1, h2, h3⟩, h4, h5⟩ := h
  refine ⟨⟨ad, c, (hb.block R (by omega)).trans h1, ⟨h2.ncap, h2.cap63, h2.wf, h2.none_, fun a ha hp => ?_⟩, h3⟩, h4, Nat.le_trans h5 hb.size⟩
  obtain ⟨k1, k2, k3⟩ := h2.at_ a ha hp
  have := (h3 a ha hp).1
  exact ⟨k1, Nat.lt_of_lt_of_le k2 hb.size, fun j hj => (hb.cell (p := ⟨a.block, a.off + j, none⟩) (by show a.block < B; omega)).trans (k3 j hj)⟩
theorem pchain_len : ∀ (l : List Int) (t r : List Int), pchain l = some (t, r) → t.length ≤ l.length ∧ r.length ≤ l.length
  | [], t, r, h => by simp [pchain] at h
  | c :: l, t, r, h => by
    by_cases hc : c = 0
    · subst hc
      cases l with
      | nil => rw [pchain_zero0] at h; cases h
      | cons d l =>
        rw [pchain_zero] at h
        by_cases hd : d = 0
        · rw [if_pos hd] at h
          obtain ⟨rfl, rfl⟩ : [] = t ∧ l = r := by simpa using h
          simp; omega
        · rw [if_neg hd] at h
          by_cases h5 : d = 255
          · rw [if_pos h5] at h
            obtain ⟨⟨t', r'⟩, h1, h2⟩ := Option.map_eq_some_iff.1 h
            obtain ⟨rfl, rfl⟩ : 0 :: t' = t ∧ r' = r := by simpa using h2
            have := pchain_len l t' r' h1
            simp; omega
          · rw [if_neg h5] at h; cases h
    · rw [pchain_other hc] at h
      obtain ⟨⟨t', r'⟩, h1, h2⟩ := Option.map_eq_some_iff.1 h
      obtain ⟨rfl, rfl⟩ : c :: t' = t ∧ r' = r := by simpa using h2
      have := pchain_len l t' r' h1
      simp; omega

set_option maxHeartbeats 8000000 in
theorem rchain_any (n₀ R : Nat) (l : List Int) (bad : Bool) (w : World) (h : RdS n₀ w R l bad) (hl : l.length ≤ 100000000) : Calls Tryd.prog 40 #[.pointer (some ⟨R, 0, none⟩)] w (ChainPost n₀ R l bad w) := by
  have hn := h.n0
  have hRn := h.lt
  have hb1 : Below w.heap.size w (w.alloc (.cells #[.pointer none, .slice none 0 0] 78)) := (Below.refl _ w).alloc (Nat.le_refl _) _
  have hS1 := h.keep hb1
  have hB1 := YtmpaaedccodjaaaDoor.fresh w
  have hsz : w.heap.size < (w.alloc (.cells #[.pointer none, .slice none 0 0] 78)).heap.size := by simp
  have hg1 : w.grownBy (w.alloc (.cells #[.pointer none, .slice none 0 0] 78)) (some R) := ⟨rfl, rfl, rfl, by simp, fun k hk _ => Below.heap_alloc w _ k hk⟩
  clear hb1 h
  go_enter Tryd.func40, Tryd.ntmps40
  go_upto_region 2 with fail
  generalize hw1 : World.alloc w _ = w1 at hS1 hB1 hsz hg1 ⊢
  clear hw1
  have HS1 := Lib.hid hS1
  have HB1 := Lib.hid hB1
  have HG1 := Lib.hid hg1
  have hRw : R < w.heap.size := by omega
  clear hS1 hB1 hg1
  go_wp2_with fail
  go_loopw [] (fun wr => ∃ (a l' : List Int) (bad' : Bool), Hid (RdS n₀ wr R l' bad') ∧ Hid (YtmpaaedccodjaaaDoor.Bld w.heap.size (a.map byteOf) wr) ∧ Hid (w.grownBy wr (some R)) ∧ Hid (orBad bad (pchain l) = orBad bad' ((pchain l').map fun x => (a ++ x.1, x.2))) ∧ Hid (a.length + l'.length ≤ l.length)) (fun wr => leftAt wr R)
  case atStart => exact ⟨[], l, bad, HS1, HB1, HG1, Lib.hid (by cases h : pchain l <;> simp [orBad]), Lib.hid (by simp)⟩
  case round =>
    obtain ⟨a, l', bad', HST, HBLD, HGR, HINV, HLEN⟩ := hrel
    have HBW : w.heap.size ≤ wr.heap.size := HGR.out.size
    obtain ⟨ad, c, c0, c1, fz⟩ := HST.out.cells
    have hleft := HST.out.left
    have HLEFT := Lib.hid hleft
    clear fz c0 hleft
    cases bad' with
    | true =>
      go_wp2_with fail
      (with_reducible refine (YtmpaaedccodjaaaDoor.built w.heap.size _ _ HBLD.out HBW).mono ?_)
      rintro e w9 ⟨rfl, hb9⟩
      have HG9 := Lib.hid (grown_below' HGR.out hb9)
      have HS9 := Lib.hid (HST.out.keepB hb9 hn)
      clear hb9
      go_wp2_with fail
      try go_ret
      exact ⟨a, l', true, rfl, HS9.out, HG9.out, by rw [HINV.out]; rfl, by have := HLEN.out; omega, by have := HLEN.out; omega⟩
    | false =>
      cases l' with
      | nil =>
        have HBY := Lib.hid (byte_any n₀ R [] false wr HST.out)
        go_wp2_with fail
        (with_reducible refine HBY.out.mono ?_)
        rintro e w2 ⟨rfl, h2, hg2⟩
        have HBY2 := Lib.hid (byte_any n₀ R [] true w2 h2)
        have HB2 := Lib.hid (HBLD.out.other hg2 hRw)
        have HG2 := Lib.hid (grown_twice HGR.out hg2)
        clear h2 hg2 HBY HBLD HGR HST c1
        simp only [rbyte]
        go_wp2_with fail
        (with_reducible refine HBY2.out.mono ?_)
        rintro e w3 ⟨rfl, h3, hg3⟩
        have HBLD := Lib.hid (HB2.out.other hg3 hRw)
        have HGR := Lib.hid (grown_twice HG2.out hg3)
        have HST := Lib.hid h3
        have HBW : w.heap.size ≤ w3.heap.size := HGR.out.size
        clear h3 hg3 HBY2 HB2 HG2
        simp only [rbyte]
        go_wp2_with fail
        (with_reducible refine (YtmpaaedccodjaaaDoor.built w.heap.size _ _ HBLD.out HBW).mono ?_)
        rintro e w9 ⟨rfl, hb9⟩
        have HG9 := Lib.hid (grown_below' HGR.out hb9)
        have HS9 := Lib.hid (HST.out.keepB hb9 hn)
        clear hb9
        go_wp2_with fail
        try go_ret
        exact ⟨a, [], true, rfl, HS9.out, HG9.out, by rw [HINV.out]; rfl, by have := HLEN.out; omega, by simp⟩
      | cons x l1 =>
        have hwx := rbyte_wf HST.out
        obtain ⟨hx0, hx1⟩ := hwx
        simp only [rbyte] at hx0 hx1
        have HBY := Lib.hid (byte_any n₀ R (x :: l1) false wr HST.out)
        go_wp2_with fail
        (with_reducible refine HBY.out.mono ?_)
        rintro e w2 ⟨rfl, h2, hg2⟩
        have HB2 := Lib.hid (HBLD.out.other hg2 hRw)
        have HG2 := Lib.hid (grown_twice HGR.out hg2)
        have HS2 := Lib.hid h2
        clear h2 hg2 HBY HBLD HGR HST c1
        simp only [rbyte] at HS2 ⊢
        by_cases h0 : x = 0
        · subst h0
          cases l1 with
          | nil =>
            have HBY2 := Lib.hid (byte_any n₀ R [] false w2 HS2.out)
            go_wp2_with fail
            (with_reducible refine HBY2.out.mono ?_)
            rintro e w3 ⟨rfl, h3, hg3⟩
            have HBLD := Lib.hid (HB2.out.other hg3 hRw)
            have HGR := Lib.hid (grown_twice HG2.out hg3)
            have HST := Lib.hid h3
            have HBW : w.heap.size ≤ w3.heap.size := HGR.out.size
            clear h3 hg3 HBY2 HB2 HG2 HS2
            simp only [rbyte] at HST ⊢
            go_wp2_with fail
            (with_reducible refine (YtmpaaedccodjaaaDoor.built w.heap.size _ _ HBLD.out HBW).mono ?_)
            rintro e w9 ⟨rfl, hb9⟩
            have HG9 := Lib.hid (grown_below' HGR.out hb9)
            have HS9 := Lib.hid (HST.out.keepB hb9 hn)
            clear hb9
            go_wp2_with fail
            try go_ret
            exact ⟨a, [], true, rfl, HS9.out, HG9.out, by rw [HINV.out, pchain_zero0]; rfl, by have := HLEN.out; omega, by simp⟩
          | cons y l2 =>
            have hwy := rbyte_wf HS2.out
            obtain ⟨hy0, hy1⟩ := hwy
            simp only [rbyte] at hy0 hy1
            have HBY2 := Lib.hid (byte_any n₀ R (y :: l2) false w2 HS2.out)
            go_wp2_with fail
            (with_reducible refine HBY2.out.mono ?_)
            rintro e w3 ⟨rfl, h3, hg3⟩
            have HBLD := Lib.hid (HB2.out.other hg3 hRw)
            have HGR := Lib.hid (grown_twice HG2.out hg3)
            have HST := Lib.hid h3
            have HBW : w.heap.size ≤ w3.heap.size := HGR.out.size
            clear h3 hg3 HBY2 HB2 HG2 HS2
            simp only [rbyte] at HST ⊢
            by_cases hy : y = 0
            · subst hy
              go_wp2_with fail
              (with_reducible refine (YtmpaaedccodjaaaDoor.built w.heap.size _ _ HBLD.out HBW).mono ?_)
              rintro e w9 ⟨rfl, hb9⟩
              have HG9 := Lib.hid (grown_below' HGR.out hb9)
              have HS9 := Lib.hid (HST.out.keepB hb9 hn)
              clear hb9
              go_wp2_with fail
              try go_ret
              exact ⟨a, l2, false, rfl, HS9.out, HG9.out, by rw [HINV.out, pchain_zero, if_pos rfl]; exact ⟨by simp, rfl, rfl⟩, by have := HLEN.out; omega, by have := HLEN.out; simp at this; omega⟩
            · have t2 : (y == 0) = false := by simpa using hy
              have hlen2 : (a ++ [0]).length + l2.length ≤ l.length := by have := HLEN.out; simp at this ⊢; omega
              have HLEN2 := Lib.hid hlen2
              have hwr : ∀ W, YtmpaaedccodjaaaDoor.Bld w.heap.size (a.map byteOf) W → w.heap.size ≤ W.heap.size → Calls Tryd.prog 44 #[.pointer (some ⟨w.heap.size, 0, none⟩), .int .u8 0] W (YtmpaaedccodjaaaDoor.WrotePost .nilIface w.heap.size ((a ++ [0]).map byteOf) W) := fun W hW hs => by
                have := YtmpaaedccodjaaaDoor.writeByte w.heap.size (a.map byteOf) (byteOf 0) W hW (by rw [List.length_map]; have h9 := hlen2; simp only [List.length_append, List.length_cons, List.length_nil] at h9; omega) hs
                rw [List.map_append]
                exact this
              have HWR := Lib.hid hwr
              clear hlen2 hwr
              by_cases h255 : y = 255
              · have t3 : (y != 255) = false := by simpa using h255
                have hinv : orBad bad (pchain l) = orBad false ((pchain l2).map fun x => ((a ++ [0]) ++ x.1, x.2)) := by
                  rw [HINV.out, pchain_zero, if_neg hy, if_pos h255, orBad, orBad, Option.map_map]
                  simp [Function.comp_def]
                have HINV2 := Lib.hid hinv
                clear hinv h255 hy
                go_wp2_with fail
                (with_reducible refine (HWR.out _ HBLD.out HBW).mono ?_)
                rintro e w4 ⟨rfl, hb4, hbel4, -⟩
                have HB4 := Lib.hid hb4
                have HS4 := Lib.hid (HST.out.keepB hbel4 hn)
                have HG4 := Lib.hid (grown_below' HGR.out hbel4)
                clear hb4 hbel4
                go_wp2_with fail
                go_roundw
                case rel => exact ⟨a ++ [0], l2, false, HS4, HB4, HG4, HINV2, HLEN2⟩
                case measure => rw [HS4.out.left, HLEFT.out]; simp; omega
              · have t3 : (y != 255) = true := by simpa using h255
                have hinv : orBad bad (pchain l) = orBad true ((pchain l2).map fun x => ((a ++ [0]) ++ x.1, x.2)) := by
                  rw [HINV.out, pchain_zero, if_neg hy, if_neg h255]; rfl
                have HINV2 := Lib.hid hinv
                obtain ⟨ad3, c3, k0, k1, fz3⟩ := HST.out.cells
                have f31 := fz3 1
                have HS3 := Lib.hid (HST.out.setBad true)
                have HB3 := Lib.hid (HBLD.out.other (grown_cell w3 R 1 (.bool true)) hRw)
                have HG3 := Lib.hid (grown_twice HGR.out (grown_cell w3 R 1 (.bool true)))
                have HBW3 : w.heap.size ≤ (w3.setCell ⟨R, 1, none⟩ (.bool true)).heap.size := HG3.out.size
                clear hinv h255 hy k0 fz3
                go_wp2_with fail
                (with_reducible refine (HWR.out _ HB3.out HBW3).mono ?_)
                rintro e w4 ⟨rfl, hb4, hbel4, -⟩
                have HB4 := Lib.hid hb4
                have HS4 := Lib.hid (HS3.out.keepB hbel4 hn)
                have HG4 := Lib.hid (grown_below' HG3.out hbel4)
                clear hb4 hbel4
                go_wp2_with fail
                go_roundw
                case rel => exact ⟨a ++ [0], l2, true, HS4, HB4, HG4, HINV2, HLEN2⟩
                case measure => rw [HS4.out.left, HLEFT.out]; simp; omega
        · have t2 : (x == 0) = false := by simpa using h0
          have hlen2 : (a ++ [x]).length + l1.length ≤ l.length := by have := HLEN.out; simp at this ⊢; omega
          have HLEN2 := Lib.hid hlen2
          have hwr : ∀ W, YtmpaaedccodjaaaDoor.Bld w.heap.size (a.map byteOf) W → w.heap.size ≤ W.heap.size → Calls Tryd.prog 44 #[.pointer (some ⟨w.heap.size, 0, none⟩), .int .u8 x] W (YtmpaaedccodjaaaDoor.WrotePost .nilIface w.heap.size ((a ++ [x]).map byteOf) W) := fun W hW hs => by
            have := YtmpaaedccodjaaaDoor.writeByte w.heap.size (a.map byteOf) (byteOf x) W hW (by rw [List.length_map]; have h9 := hlen2; simp only [List.length_append, List.length_cons, List.length_nil] at h9; omega) hs
            rw [u8_int hx0 hx1] at this
            rw [List.map_append]
            exact this
          have HWR := Lib.hid hwr
          have hinv : orBad bad (pchain l) = orBad false ((pchain l1).map fun y => ((a ++ [x]) ++ y.1, y.2)) := by
            rw [HINV.out, pchain_other h0, orBad, orBad, Option.map_map]
            simp [Function.comp_def]
          have HINV2 := Lib.hid hinv
          have HBW2 : w.heap.size ≤ w2.heap.size := HG2.out.size
          clear hlen2 hwr hinv h0
          go_wp2_with fail
          (with_reducible refine (HWR.out _ HB2.out HBW2).mono ?_)
          rintro e w4 ⟨rfl, hb4, hbel4, -⟩
          have HB4 := Lib.hid hb4
          have HS4 := Lib.hid (HS2.out.keepB hbel4 hn)
          have HG4 := Lib.hid (grown_below' HG2.out hbel4)
          clear hb4 hbel4
          go_wp2_with fail
          go_roundw
          case rel => exact ⟨a ++ [x], l1, false, HS4, HB4, HG4, HINV2, HLEN2⟩
          case measure => rw [HS4.out.left, HLEFT.out]; simp
end Go.Proofs.YtmpaaedccodjaaaDoor
