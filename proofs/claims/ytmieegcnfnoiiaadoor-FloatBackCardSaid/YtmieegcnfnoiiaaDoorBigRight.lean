/-
  The contract of big.right: a number without its last bits, less than a word of them. Conditions: at most 2^20 words.
-/
import Derived.Test.YtmieegcnfnoiiaaDoorRightLaw
namespace Go.Proofs.YtmieegcnfnoiiaaDoor
open Go.RowKit Gx
set_option maxRecDepth 100000

set_option maxHeartbeats 1000000 in
theorem bigRight_any (ad : Option Addr) (ca : Nat) (xs : List Int) (n : Nat) (w : World) (h : Rd .u32 w ad ca xs) (hl : xs.length ≤ 1048576) (hn : n ≤ 31) :
    Calls Tryd.prog 33 #[.slice ad xs.length ca, .int .i64 n] w (WordsPost (bval xs / 2 ^ n) w) := by
  have hwx := words_of_rd h
  have H := Lib.hid h
  have HWX := Lib.hid hwx
  clear h hwx
  go_enter Tryd.func33, Tryd.ntmps33
  obtain ⟨i0, hi, hz0, hz1, hz2⟩ := info_parts Tryd.info_u32
  have HI := Lib.hid hi
  have HZ0 := Lib.hid hz0
  have HZ1 := Lib.hid hz1
  clear hi hz0 hz1
  go_wp2_with (first
    | (at_make; refine wpList_make_full _ rfl _ _ 29 rfl w.heap.size 27 i0 (.int .u32 0) 1 Tryd.underlying29 HI.out HZ0.out HZ1.out .i64 .i64 _ _ xs.length rfl rfl (by omega) (by omega) (by rw [hz2]; omega) (by unfold maxLen; omega) (Nat.le_refl _) ?_))
  intro w1 hown hg
  have hb : Below w.heap.size w w1 := Gx.grown_below hg (Nat.le_refl _) (by simp)
  rw [madeCells_one] at hown
  clear hg hz2 HI HZ0 HZ1
  obtain ⟨m, hm⟩ : ∃ m, m = xs.length := ⟨_, rfl⟩
  obtain ⟨gb, hgb⟩ : ∃ gb, gb = w.heap.size := ⟨_, rfl⟩
  rw [← hm] at hown hl ⊢
  rw [show Value.slice (some ⟨w.heap.size, 0, none⟩) m m = Value.slice (some ⟨gb, 0, none⟩) m m from by rw [hgb]] at hown ⊢
  have HM := Lib.hid hm; clear hm
  have HGB := Lib.hid hgb; clear hgb
  have a1 : IntKind.u64.wrap (n : Int) = (n : Int) := by rw [IntKind.wrap_u64]; omega
  have a2 : IntKind.i64.wrap (32 - (n : Int)) = ((32 - n : Nat) : Int) := by rw [IntKind.wrap_i64]; omega
  have a3 : IntKind.u64.wrap ((32 - n : Nat) : Int) = ((32 - n : Nat) : Int) := by rw [IntKind.wrap_u64]; omega
  have a4 : (32 : Int) - (n : Int) = ((32 - n : Nat) : Int) := by omega
  have a5 : min n 32 = n := by omega
  have a6 : min (32 - n) 64 = 32 - n := by omega
  go_wp2
  go_loopw [12] (fun i wr => ∃ (k : Nat) (out : List Int), k ≤ m ∧ i = .int .i64 k ∧
      wr.ownsRow w.heap.size 27 1 (.slice (some ⟨gb, 0, none⟩) m m) m (out.map (Value.int .u32)) ∧ Hid (out.length = m) ∧ Hid (Words out) ∧ Hid (∀ j, j < k → (out.getD j 0).toNat = bval xs / 2 ^ n / 4294967296 ^ j % 4294967296) ∧ Below w.heap.size w wr)
    (fun i _ => m - (intOf i).toNat)
  case atStart =>
    refine ⟨0, List.replicate m 0, Nat.zero_le _, rfl, hown, by simp [Hid], fun x hx => ?_, fun j hj => by omega, hb⟩
    have := (List.mem_replicate.1 hx).2; omega
  case round =>
    clear hown hb
    obtain ⟨k, out, hk, rfl, hown1, hol, how, hval, hb1⟩ := hrel
    have hb3 := hb1.size
    have hgb : w.heap.size ≤ gb := by rw [HGB.out]; exact Nat.le_refl _
    by_cases hkx : k < m
    · obtain ⟨b1, o1, rfl, hbl, -⟩ := H.out.addr (by have := HM.out; omega)
      obtain ⟨b1', o1', he, -, hcx⟩ := (H.out.keep hb1).addr (by have := HM.out; omega)
      obtain ⟨rfl, rfl⟩ : b1 = b1' ∧ o1 = o1' := by simpa using he
      clear he
      have hx := hcx k (by have := HM.out; omega)
      obtain ⟨bx0, bx1⟩ := words_getD HWX.out k
      obtain ⟨x, ex⟩ : ∃ x : Nat, (x : Int) = xs.getD k 0 := ⟨(xs.getD k 0).toNat, by omega⟩
      rw [← ex] at hx bx1
      have EX := Lib.hid ex
      clear ex bx0
      have hol' : out.length = m := hol.out
      have hcell : ∃ y, wr.cell? ⟨gb, k, none⟩ = some (.int .u32 y) := by
        rw [hown1.cellAt k (by omega)]
        exact ⟨out[k], by simp [List.getElem?_eq_getElem (show k < out.length by omega)]⟩
      obtain ⟨y0, hcell⟩ := hcell
      have hfz : wr.frozen? ⟨gb, k, none⟩ = false := hown1.frozenAt k
      have hxi : (x : Int) / 2 ^ n = ((x / 2 ^ n : Nat) : Int) := by rw [Int.natCast_ediv, Int.natCast_pow]; rfl
      obtain ⟨q, hq⟩ : ∃ q, q = x / 2 ^ n := ⟨_, rfl⟩
      rw [← hq] at hxi
      have HQ := Lib.hid hq
      clear hq
      have hqx : q ≤ x := by rw [HQ.out]; exact Nat.div_le_self _ _
      have hst := hown1.stored k (.int .u32 (q : Int))
      have hbn : Below w.heap.size w (wr.setCell ⟨gb, k, none⟩ (.int .u32 (q : Int))) := hb1.grown hst.2 hb3 (fun q e => by cases e; exact hgb)
      have hon : (wr.setCell ⟨gb, k, none⟩ (.int .u32 (q : Int))).ownsRow w.heap.size 27 1 (.slice (some ⟨gb, 0, none⟩) m m) m ((out.set k (q : Int)).map (Value.int .u32)) := by
        rw [List.map_set]; exact hst.1
      have HON := Lib.hid hon
      have HBN := Lib.hid hbn
      have hw3 := Lib.hid (words_set how.out k (q : Int) (by omega) (by omega))
      have hl3 : Hid ((out.set k (q : Int)).length = m) := by show _ = _; rw [List.length_set]; exact hol.out
      clear hst hbn hon hown1
      by_cases hk1 : k + 1 < m
      · have hy := hcx (k + 1) (by have := HM.out; omega)
        clear hcx
        obtain ⟨by0, by1⟩ := words_getD HWX.out (k + 1)
        obtain ⟨y, ey⟩ : ∃ y : Nat, (y : Int) = xs.getD (k + 1) 0 := ⟨(xs.getD (k + 1) 0).toNat, by omega⟩
        rw [← ey] at hy by1
        have EY := Lib.hid ey
        clear ey by0
        obtain ⟨d1, d2⟩ := right_digit_next xs HWX.out n k x y hn (by rw [← HM.out]; exact hk1) EX.out EY.out
        have hor := right_or n x y hn (by omega)
        rw [← HQ.out] at d1 d2 hor
        have hyi := right_wrap n y
        obtain ⟨z, hz⟩ : ∃ z, z = y * 2 ^ (32 - n) % 4294967296 := ⟨_, rfl⟩
        rw [← hz] at hyi hor d1 d2
        have D1 := Lib.hid d1
        have D2 := Lib.hid d2
        have hz4 : z < 4294967296 := by omega
        clear d1 d2 hz
        go_wp2
        have hne : b1 ≠ gb := by omega
        have hy2 : (wr.setCell ⟨gb, k, none⟩ (.int .u32 (q : Int))).cell? ⟨b1, o1 + (k + 1), none⟩ = some (.int .u32 (y : Int)) := by
          rw [World.cell?_setCell_other _ _ _ _ (by intro h; simp only [Addr.mk.injEq] at h; omega)]; exact hy
        have hc2 : (wr.setCell ⟨gb, k, none⟩ (.int .u32 (q : Int))).cell? ⟨gb, k, none⟩ = some (.int .u32 (q : Int)) := World.cell?_setCell_same _ _ _ hcell
        obtain ⟨wz, hwz⟩ : ∃ wz : World, wz = wr.setCell ⟨gb, k, none⟩ (.int .u32 (q : Int)) := ⟨_, rfl⟩
        rw [← hwz] at hy2 hc2 HON HBN ⊢
        have hol3 : (out.set k (q : Int)).length = m := hl3.out
        have hfz2 : wz.frozen? ⟨gb, k, none⟩ = false := HON.out.frozenAt k
        have hbz := HBN.out.size
        have hst := HON.out.stored k (.int .u32 ((q + z : Nat) : Int))
        have hbn : Below w.heap.size w (wz.setCell ⟨gb, k, none⟩ (.int .u32 ((q + z : Nat) : Int))) := HBN.out.grown hst.2 hbz (fun q e => by cases e; exact hgb)
        have hon : (wz.setCell ⟨gb, k, none⟩ (.int .u32 ((q + z : Nat) : Int))).ownsRow w.heap.size 27 1 (.slice (some ⟨gb, 0, none⟩) m m) m (((out.set k (q : Int)).set k ((q + z : Nat) : Int)).map (Value.int .u32)) := by
          rw [List.map_set]; exact hst.1
        have HON2 := Lib.hid hon
        have HBN2 := Lib.hid hbn
        have hqz := D2.out
        have hw4 := Lib.hid (words_set hw3.out k ((q + z : Nat) : Int) (by omega) (by omega))
        have hl4 : Hid (((out.set k (q : Int)).set k ((q + z : Nat) : Int)).length = m) := by show _ = _; rw [List.length_set]; exact hl3.out
        have hT : Hid (∀ j, j < k + 1 → (((out.set k (q : Int)).set k ((q + z : Nat) : Int)).getD j 0).toNat = bval xs / 2 ^ n / 4294967296 ^ j % 4294967296) := by
          refine digits_set _ k m _ (fun j => bval xs / 2 ^ n / 4294967296 ^ j % 4294967296) hl3.out hkx (fun j hj => ?_) ?_
          · rw [getD_set_ne _ _ _ _ (by omega)]; exact hval.out j hj
          · rw [D1.out, Int.toNat_natCast]
        have hor2 : bits BinOp.or IntKind.u32 (q : Int) (IntKind.u64.wrap ((y : Int) * 2 ^ (32 - n)) % 4294967296) = ((q + z : Nat) : Int) := by rw [IntKind.wrap_u64, hyi]; exact hor
        have HOR := Lib.hid hor2
        clear hor2
        have i1 : (0 : Int) ≤ (k : Int) + 1 := by omega
        have i2 : (k : Int) + 1 < (m : Int) := by omega
        have i3 : ((k : Int) + 1).toNat = k + 1 := by omega
        have i4 : IntKind.i64.wrap ((k : Int) + 1) = (k : Int) + 1 := by rw [IntKind.wrap_i64]; omega
        have i5 : (k : Int) < (m : Int) := by omega
        clear hst hbn hon hwz hx hcell hfz hol3 hol' hy hor
        go_region
        rw [HOR.out]
        go_wp2
        go_roundw
        case rel => exact ⟨k + 1, (out.set k (q : Int)).set k ((q + z : Nat) : Int), by omega, by go_num, HON2.out.drew, hl4, hw4, hT, HBN2.out.drew⟩
        case measure => simp [intOf]; omega
      · have hT : Hid (∀ j, j < k + 1 → ((out.set k (q : Int)).getD j 0).toNat = bval xs / 2 ^ n / 4294967296 ^ j % 4294967296) := by
          refine digits_set out k m _ (fun j => bval xs / 2 ^ n / 4294967296 ^ j % 4294967296) hol.out hkx hval.out ?_
          rw [right_digit_last xs HWX.out n k x hn (by have := HM.out; omega) EX.out, Int.toNat_natCast, HQ.out]
        clear hcx
        go_wp2
        go_roundw
        case rel => exact ⟨k + 1, out.set k (q : Int), by omega, by go_num, HON.out, hl3, hw3, hT, HBN.out⟩
        case measure => simp [intOf]; omega
    · obtain rfl : k = m := by omega
      have hfin : bval out = bval xs / 2 ^ n := right_end xs out HWX.out n (hol.out.trans HM.out) (by rw [← HM.out]; exact hval.out)
      have HF := Lib.hid hfin
      obtain ⟨ad', cap', he, hrd⟩ := Gx.Rd.own (k := .u32) (xs := out) hown1 (wf_words how.out)
      have HR := Lib.hid hrd
      have hlo : out.length ≤ 1048576 := by have := hol.out; omega
      clear hrd hown1 hfin hval
      rw [he]
      clear he
      go_wp2_with (first
        | (go_at_call 26; refine (trimmed_any ad' cap' out _ HR.out (by omega)).mono ?_; rintro e w' ⟨rfl, rfl⟩))
      go_ret
      refine ⟨ad', cap', ?_, ?_, hb1⟩
      · rw [← HF.out]; rfl
      · rw [← HF.out]; exact HR.out.trim
end Go.Proofs.YtmieegcnfnoiiaaDoor
