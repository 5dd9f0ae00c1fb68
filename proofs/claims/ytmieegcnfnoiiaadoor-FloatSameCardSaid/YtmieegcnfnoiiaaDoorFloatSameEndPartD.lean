/-
  The contracts of big.takes and big.gives: so often v off, or on, a window of a number. Conditions: the window lies in a row of the caller's own; at most 2^20 words.
  The contract of big.Add. Condition: the slices have at most 2^30 words.
  The contract of big.left: a number by a power of 2, less than a word. Conditions: at most 2^20 words, the last is no nought.
  The contract of big.left, with whose memory it is. Conditions: at most 2^20 words, the last is no nought.
  The contract of big.right: a number without its last bits, less than a word of them. Conditions: at most 2^20 words.
  The contract of big.long: long division. Conditions: at most 1,000,000 words; the divisor has two or more, and is not greater.
-/
import Derived.Deep.DeepCutAuto
import Derived.Deep.CutBlock
import Derived.IntWalk
import Derived.Test.YtmieegcnfnoiiaaDoorFloatSameEndPartC
namespace Go.Proofs.YtmieegcnfnoiiaaDoor
open Go.RowKit Gx
set_option maxRecDepth 100000

theorem kzb (c : Int) (h0 : 0 ≤ c) (h1 : c ≤ 1) : (c = 0 ∧ decide (c = 1) = false ∧ (c == 1) = false) ∨ (c = 1 ∧ decide (c = 1) = true ∧ (c == 1) = true) := by
  by_cases h : c = 1
  · subst h; exact .inr ⟨rfl, rfl, rfl⟩
  · have : c = 0 := by omega
    subst this; exact .inl ⟨rfl, rfl, rfl⟩

/-- a window has become less by g times v; c: it was too often -/
def TakesPost (B0 gu m cap : Nat) (us vs : List Int) (g j k : Nat) (w : World) (e : Ending) (w' : World) : Prop :=
  ∃ (out : List Int) (c : Nat), c ≤ 1 ∧ e = .returned (.bool (c == 1)) ∧ w'.ownsRow B0 27 1 (.slice (some ⟨gu, 0, none⟩) m cap) m (out.map (Value.int .u32)) ∧ Words out ∧ SameOut us out j k ∧
    win out j k + g * bval vs = win us j k + 4294967296 ^ k * c ∧ w.grownBy w' (some gu)

set_option maxHeartbeats 1000000 in
theorem takes_any (B0 gu m cap cw : Nat) (us vs : List Int) (g j : Nat) (vd : Option Addr) (vc : Nat) (w : World) (hown : w.ownsRow B0 27 1 (.slice (some ⟨gu, 0, none⟩) m cap) m (us.map (Value.int .u32))) (hw : Words us) (hv : Rd .u32 w vd vc vs)
    (hne : ∀ a, vd = some a → 0 < vs.length → some a.block ≠ some gu) (hg : g < 4294967296) (hj : j + (vs.length + 1) ≤ m) (hm : m ≤ 2097152) :
    Calls Tryd.prog 73 #[.slice (some ⟨gu, j, none⟩) (vs.length + 1 : Nat) cw, .slice vd vs.length vc, .int .u64 g] w (TakesPost B0 gu m cap us vs g j (vs.length + 1) w) := by
  have hwv := words_of_rd hv
  have hlu : us.length = m := by have := hown.1; simpa using this
  have HV := Lib.hid hv
  have HNE := Lib.hid hne
  have HW := Lib.hid hw
  have HWV := Lib.hid hwv
  have HLU := Lib.hid hlu
  clear hv hne hw hwv hlu
  obtain ⟨nv, hnv⟩ : ∃ nv, nv = vs.length := ⟨_, rfl⟩
  rw [← hnv] at hj ⊢
  have HNV := Lib.hid hnv
  clear hnv
  have hg0 : (0 : Int) ≤ (g : Int) := by omega
  have hg1 : (g : Int) ≤ 4294967295 := by omega
  go_enter Tryd.func73, Tryd.ntmps73
  go_wp2
  go_loopw [7, 8, 12] (fun c b i wr => ∃ (k : Nat) (cr bo : Int) (out : List Int), k ≤ nv + 1 ∧ i = .int .i64 k ∧ c = .int .u64 cr ∧ 0 ≤ cr ∧ cr ≤ 4294967295 ∧ b = .int .u32 bo ∧ 0 ≤ bo ∧ bo ≤ 1 ∧
      wr.ownsRow B0 27 1 (.slice (some ⟨gu, 0, none⟩) m cap) m (out.map (Value.int .u32)) ∧ Hid (Words out) ∧ Hid (SameOut us out j (nv + 1)) ∧
      Hid (bval out + 4294967296 ^ j * (g * bval (vs.take k)) = bval us + 4294967296 ^ (j + k) * (cr.toNat + bo.toNat)) ∧ Hid (k = nv + 1 → cr = 0) ∧ Hid (w.grownBy wr (some gu)))
    (fun _ _ i _ => nv + 1 - (intOf i).toNat)
  case atStart => exact ⟨0, 0, 0, us, Nat.zero_le _, rfl, rfl, by omega, by omega, rfl, by omega, by omega, hown, HW.out, SameOut.refl _ _ _, by show _ = _; simp [bval], (fun h => by omega), World.grownBy.refl _ _⟩
  case round =>
    clear hown
    obtain ⟨k, cr, bo, out, hk, rfl, rfl, hc0, hc1, rfl, hb0, hb1, hown, HOW, HSO, hval, hlast, HG⟩ := hrel
    by_cases hlt : k < nv + 1
    · have hol : out.length = m := by have := hown.1; simpa using this
      have hin : j + k < m := by omega
      have bo' := words_getD HOW.out (j + k)
      have hcell : wr.cell? ⟨gu, j + k, none⟩ = some (.int .u32 (out.getD (j + k) 0)) := by
        rw [hown.cellAt (j + k) (by omega)]
        simp [List.getD, List.getElem?_eq_getElem (show j + k < out.length by omega)]
      have hfz : wr.frozen? ⟨gu, j + k, none⟩ = false := hown.frozenAt (j + k)
      obtain ⟨x, ex⟩ : ∃ o, o = out.getD (j + k) 0 := ⟨_, rfl⟩
      rw [← ex] at hcell bo'
      obtain ⟨bx0, bx1⟩ := bo'
      obtain ⟨by0, by1⟩ := words_getD HWV.out k
      obtain ⟨y, ey⟩ : ∃ y, y = vs.getD k 0 := ⟨_, rfl⟩
      rw [← ey] at by0 by1
      have hT := take_step out vs (bval us) j k (g : Int) x y cr bo hg0 bx0 bx1 by0 hc0 hb0 hb1 (by omega) ex ey hval.out
      obtain ⟨mb0, mb1⟩ := mul_bound hg0 hg1 by0 by1
      have hmy : y = 0 → (g : Int) * y = 0 := fun h => by rw [h]; simp
      obtain ⟨z, hz⟩ : ∃ z, z = (g : Int) * y := ⟨_, rfl⟩
      have hmul : (g : Int) * y = z := hz.symm
      rw [hmul] at hT
      rw [← hz] at mb0 mb1 hmy
      have EY := Lib.hid ey
      have EX := Lib.hid ex
      clear hz ex ey
      have hd0 : 0 ≤ (cr + z) % 4294967296 := by omega
      have hd1 : (cr + z) % 4294967296 ≤ 4294967295 := by omega
      have hq0 : 0 ≤ (cr + z) / 4294967296 := by omega
      have hq1 : (cr + z) / 4294967296 ≤ 4294967295 := by omega
      have hst := hown.stored (j + k) (.int .u32 ((x - (cr + z) % 4294967296 - bo) % 4294967296))
      have hn0 : 0 ≤ (x - (cr + z) % 4294967296 - bo) % 4294967296 := by omega
      have hn1 : (x - (cr + z) % 4294967296 - bo) % 4294967296 ≤ 4294967295 := by omega
      have HON : Hid ((wr.setCell ⟨gu, j + k, none⟩ (.int .u32 ((x - (cr + z) % 4294967296 - bo) % 4294967296))).ownsRow B0 27 1 (.slice (some ⟨gu, 0, none⟩) m cap) m ((out.set (j + k) ((x - (cr + z) % 4294967296 - bo) % 4294967296)).map (Value.int .u32))) := by
        show World.ownsRow _ _ _ _ _ _ _
        rw [List.map_set]; exact hst.1
      have HGN := Lib.hid (HG.out.trans hst.2)
      have hw3 := Lib.hid (words_set HOW.out (j + k) _ hn0 hn1)
      have hs3 := Lib.hid (HSO.out.set (j + k) ((x - (cr + z) % 4294967296 - bo) % 4294967296) (by omega) (by omega))
      obtain ⟨br0, br1⟩ := borrow_range x ((cr + z) % 4294967296) bo
      have HT := Lib.hid hT
      have HRV := Lib.hid (HV.out.grown HG.out HNE.out)
      clear hst hT hn0 hn1 hol hval hlast HOW HSO HG hown
      by_cases hky : k < nv
      · obtain ⟨b2, o2, rfl, -, hcy⟩ := HRV.out.addr (by have := HNV.out; omega)
        have hy := hcy k (by have := HNV.out; omega)
        rw [← EY.out] at hy
        clear hcy hmy
        go_wp2_with fail
        refine (sub32_any x ((cr + z) % 4294967296) bo _ bx0 bx1 hd0 hd1 hb0 hb1).mono ?_
        rintro e w' ⟨rfl, rfl⟩
        go_wp2
        go_roundw
        case rel => exact ⟨k + 1, (cr + z) / 4294967296, borrowOf x ((cr + z) % 4294967296) bo, out.set (j + k) ((x - (cr + z) % 4294967296 - bo) % 4294967296), by omega, by go_num, rfl, hq0, hq1, rfl, br0, br1, HON.out, hw3, hs3, HT, (fun h => by omega), HGN⟩
        case measure => simp [intOf]; omega
      · obtain rfl : k = nv := by omega
        have hy0 : y = 0 := by rw [EY.out]; simp [List.getD, List.getElem?_eq_none (show vs.length ≤ k by have := HNV.out; omega)]
        obtain rfl := hmy hy0
        have hm1 : (cr + 0) % 4294967296 = cr := by omega
        have hm2 : (cr + 0) / 4294967296 = 0 := by omega
        rw [hm1] at HON HGN hw3 hs3 br0 br1 HT hd0 hd1
        rw [hm2] at HT
        clear hm1 hm2 hmul mb0 mb1 hy0 EY hq0 hq1 hmy
        go_wp2_with fail
        refine (sub32_any x cr bo _ bx0 bx1 hd0 hd1 hb0 hb1).mono ?_
        rintro e w' ⟨rfl, rfl⟩
        go_wp2
        go_roundw
        case rel => exact ⟨k + 1, 0, borrowOf x cr bo, out.set (j + k) ((x - cr - bo) % 4294967296), by omega, by go_num, (by congr 1; omega), by omega, by omega, rfl, br0, br1, HON.out, hw3, hs3, HT, (fun h => rfl), HGN⟩
        case measure => simp [intOf]
    · obtain rfl : k = nv + 1 := by omega
      have hcz := hlast.out rfl
      subst hcz
      have hfin : win out j (nv + 1) + g * bval vs = win us j (nv + 1) + 4294967296 ^ (nv + 1) * bo.toNat := by
        have h1 := hval.out
        rw [List.take_of_length_le (by have := HNV.out; omega)] at h1
        simp only [Int.toNat_zero, Nat.zero_add] at h1
        rw [Nat.pow_add, Nat.mul_assoc] at h1
        exact win_of us out j (nv + 1) _ _ HSO.out (by rw [HLU.out]; exact hj) h1
      have HF := Lib.hid hfin
      have hown' := Lib.hid hown
      clear hfin hval hlast hown
      rcases kzb bo hb0 hb1 with ⟨rfl, h1, h2⟩ | ⟨rfl, h1, h2⟩
      · go_wp2
        go_ret
        exact ⟨out, 0, by omega, rfl, hown'.out, HOW.out, HSO.out, HF.out, HG.out⟩
      · go_wp2
        go_ret
        exact ⟨out, 1, by omega, rfl, hown'.out, HOW.out, HSO.out, HF.out, HG.out⟩

/-- a window has become greater by v, but for what is carried over it -/
def GivesPost (B0 gu m cap : Nat) (us vs : List Int) (j k : Nat) (w : World) (e : Ending) (w' : World) : Prop :=
  ∃ (out : List Int) (c : Nat), c ≤ 1 ∧ e = .returned (.tuple #[]) ∧ w'.ownsRow B0 27 1 (.slice (some ⟨gu, 0, none⟩) m cap) m (out.map (Value.int .u32)) ∧ Words out ∧ SameOut us out j k ∧
    win out j k + 4294967296 ^ k * c = win us j k + bval vs ∧ w.grownBy w' (some gu)

set_option maxHeartbeats 1000000 in
theorem gives_any (B0 gu m cap cw : Nat) (us vs : List Int) (j : Nat) (vd : Option Addr) (vc : Nat) (w : World) (hown : w.ownsRow B0 27 1 (.slice (some ⟨gu, 0, none⟩) m cap) m (us.map (Value.int .u32))) (hw : Words us) (hv : Rd .u32 w vd vc vs)
    (hne : ∀ a, vd = some a → 0 < vs.length → some a.block ≠ some gu) (hj : j + (vs.length + 1) ≤ m) (hm : m ≤ 2097152) :
    Calls Tryd.prog 74 #[.slice (some ⟨gu, j, none⟩) (vs.length + 1 : Nat) cw, .slice vd vs.length vc] w (GivesPost B0 gu m cap us vs j (vs.length + 1) w) := by
  have hwv := words_of_rd hv
  have hlu : us.length = m := by have := hown.1; simpa using this
  have HV := Lib.hid hv
  have HNE := Lib.hid hne
  have HW := Lib.hid hw
  have HWV := Lib.hid hwv
  have HLU := Lib.hid hlu
  clear hv hne hw hwv hlu
  obtain ⟨nv, hnv⟩ : ∃ nv, nv = vs.length := ⟨_, rfl⟩
  rw [← hnv] at hj ⊢
  have HNV := Lib.hid hnv
  clear hnv
  go_enter Tryd.func74, Tryd.ntmps74
  go_wp2
  go_loopw [4, 9] (fun b i wr => ∃ (k : Nat) (bo : Int) (out : List Int), k ≤ nv + 1 ∧ i = .int .i64 k ∧ b = .int .u32 bo ∧ 0 ≤ bo ∧ bo ≤ 1 ∧
      wr.ownsRow B0 27 1 (.slice (some ⟨gu, 0, none⟩) m cap) m (out.map (Value.int .u32)) ∧ Hid (Words out) ∧ Hid (SameOut us out j (nv + 1)) ∧
      Hid (bval out + 4294967296 ^ (j + k) * bo.toNat = bval us + 4294967296 ^ j * bval (vs.take k)) ∧ Hid (w.grownBy wr (some gu)))
    (fun _ i _ => nv + 1 - (intOf i).toNat)
  case atStart => exact ⟨0, 0, us, Nat.zero_le _, rfl, rfl, by omega, by omega, hown, HW.out, SameOut.refl _ _ _, by show _ = _; simp [bval], World.grownBy.refl _ _⟩
  case round =>
    clear hown
    obtain ⟨k, bo, out, hk, rfl, rfl, hb0, hb1, hown, HOW, HSO, hval, HG⟩ := hrel
    by_cases hlt : k < nv + 1
    · have hol : out.length = m := by have := hown.1; simpa using this
      have hin : j + k < m := by omega
      have bo' := words_getD HOW.out (j + k)
      have hcell : wr.cell? ⟨gu, j + k, none⟩ = some (.int .u32 (out.getD (j + k) 0)) := by
        rw [hown.cellAt (j + k) (by omega)]
        simp [List.getD, List.getElem?_eq_getElem (show j + k < out.length by omega)]
      have hfz : wr.frozen? ⟨gu, j + k, none⟩ = false := hown.frozenAt (j + k)
      obtain ⟨x, ex⟩ : ∃ o, o = out.getD (j + k) 0 := ⟨_, rfl⟩
      rw [← ex] at hcell bo'
      obtain ⟨bx0, bx1⟩ := bo'
      obtain ⟨by0, by1⟩ := words_getD HWV.out k
      obtain ⟨y, ey⟩ : ∃ y, y = vs.getD k 0 := ⟨_, rfl⟩
      rw [← ey] at by0 by1
      have hT := give_step out vs (bval us) j k x y bo bx0 by0 hb0 (by omega) ex ey hval.out
      have EY := Lib.hid ey
      clear ex ey
      have hq0 : 0 ≤ (x + y + bo) / 4294967296 := by omega
      have hq1 : (x + y + bo) / 4294967296 ≤ 1 := by omega
      have hst := hown.stored (j + k) (.int .u32 ((x + y + bo) % 4294967296))
      have HON : Hid ((wr.setCell ⟨gu, j + k, none⟩ (.int .u32 ((x + y + bo) % 4294967296))).ownsRow B0 27 1 (.slice (some ⟨gu, 0, none⟩) m cap) m ((out.set (j + k) ((x + y + bo) % 4294967296)).map (Value.int .u32))) := by
        show World.ownsRow _ _ _ _ _ _ _
        rw [List.map_set]; exact hst.1
      have HGN := Lib.hid (HG.out.trans hst.2)
      have hw3 := Lib.hid (words_set HOW.out (j + k) ((x + y + bo) % 4294967296) (by omega) (by omega))
      have hs3 := Lib.hid (HSO.out.set (j + k) ((x + y + bo) % 4294967296) (by omega) (by omega))
      have HT := Lib.hid hT
      have HRV := Lib.hid (HV.out.grown HG.out HNE.out)
      clear hst hT hol hval HOW HSO HG hown
      by_cases hky : k < nv
      · obtain ⟨b2, o2, rfl, -, hcy⟩ := HRV.out.addr (by have := HNV.out; omega)
        have hy := hcy k (by have := HNV.out; omega)
        rw [← EY.out] at hy
        clear hcy
        go_wp2_with fail
        refine (add32_any x y bo _ bx0 bx1 by0 by1 hb0 hb1).mono ?_
        rintro e w' ⟨rfl, rfl⟩
        go_wp2
        go_roundw
        case rel => exact ⟨k + 1, (x + y + bo) / 4294967296, out.set (j + k) ((x + y + bo) % 4294967296), by omega, by go_num, rfl, hq0, hq1, HON.out, hw3, hs3, HT, HGN⟩
        case measure => simp [intOf]; omega
      · obtain rfl : k = nv := by omega
        have hy0 : y = 0 := by rw [EY.out]; simp [List.getD, List.getElem?_eq_none (show vs.length ≤ k by have := HNV.out; omega)]
        subst hy0
        clear EY
        go_wp2_with fail
        refine (add32_any x 0 bo _ bx0 bx1 by0 by1 hb0 hb1).mono ?_
        rintro e w' ⟨rfl, rfl⟩
        simp only [Int.add_zero] at HON HGN hw3 hs3 HT hq0 hq1
        go_wp2
        go_roundw
        case rel => exact ⟨k + 1, (x + bo) / 4294967296, out.set (j + k) ((x + bo) % 4294967296), by omega, by go_num, (by first | rfl | simp), hq0, hq1, HON.out, hw3, hs3, HT, HGN⟩
        case measure => simp [intOf]
    · obtain rfl : k = nv + 1 := by omega
      have hfin : win out j (nv + 1) + 4294967296 ^ (nv + 1) * bo.toNat = win us j (nv + 1) + bval vs := by
        have h1 := hval.out
        rw [List.take_of_length_le (by have := HNV.out; omega)] at h1
        rw [Nat.pow_add, Nat.mul_assoc] at h1
        exact win_of us out j (nv + 1) _ _ HSO.out (by rw [HLU.out]; exact hj) h1
      have HF := Lib.hid hfin
      have hown' := Lib.hid hown
      clear hfin hval hown
      go_wp2
      go_end0
      exact ⟨out, bo.toNat, by omega, rfl, hown'.out, HOW.out, HSO.out, HF.out, HG.out⟩
end Go.Proofs.YtmieegcnfnoiiaaDoor
namespace Go.Proofs.YtmieegcnfnoiiaaDoor
open Go.RowKit Gx
set_option maxRecDepth 100000

set_option maxHeartbeats 1000000 in
theorem bigAdd_ge (ad bd : Option Addr) (ca cb : Nat) (xs ys : List Int) (w : World) (h : Rd .u32 w ad ca xs) (g : Rd .u32 w bd cb ys) (hl : xs.length ≤ 1073741824) (hyx : ys.length ≤ xs.length) :
    Calls Tryd.prog 41 #[.slice ad xs.length ca, .slice bd ys.length cb] w (WordsPost (bval xs + bval ys) w) := by
  have hwx := words_of_rd h
  have hwy := words_of_rd g
  have H := Lib.hid h
  have G := Lib.hid g
  have HWX := Lib.hid hwx
  have HWY := Lib.hid hwy
  clear h g hwx hwy
  have hlt : decide ((xs.length : Int) < (ys.length : Int)) = false := by simp; omega
  go_enter Tryd.func41, Tryd.ntmps41
  obtain ⟨i0, hi, hz0, hz1, hz2⟩ := info_parts Tryd.info_u32
  have HI := Lib.hid hi
  have HZ0 := Lib.hid hz0
  have HZ1 := Lib.hid hz1
  clear hi hz0 hz1
  go_wp2_with (first
    | (at_make; refine wpList_make_own _ rfl _ _ 29 rfl w.heap.size 27 i0 (.int .u32 0) 1 Tryd.underlying29 HI.out HZ0.out HZ1.out .i64 .i64 _ (xs.length + 1) rfl rfl (by omega) (by rw [hz2]; omega) (by unfold maxLen; omega) (Nat.le_refl _) ?_))
  intro w1 hown hg
  have hb : Below w.heap.size w w1 := Gx.grown_below hg (Nat.le_refl _) (by simp)
  clear hg
  obtain ⟨v0, hv0⟩ : ∃ v0, v0 = Value.slice (some ⟨w.heap.size, 0, none⟩) 0 (xs.length + 1) := ⟨_, rfl⟩
  rw [← hv0] at hown ⊢
  clear hv0
  go_wp2
  go_loopw [5, 6, 23] (fun v c i wr => ∃ (k : Nat) (out : List Int) (cr : Int), k ≤ xs.length ∧ i = .int .i64 k ∧ c = .int .u32 cr ∧ 0 ≤ cr ∧ cr ≤ 1 ∧
      wr.ownsRow w.heap.size 27 1 v k (out.map (Value.int .u32)) ∧ out.length = k ∧ Words out ∧ Hid (bval out + 4294967296 ^ k * cr.toNat = bval (xs.take k) + bval (ys.take k)) ∧ Below w.heap.size w wr)
    (fun _ _ i _ => xs.length - (intOf i).toNat)
  case atStart => exact ⟨0, [], 0, Nat.zero_le _, rfl, rfl, by omega, by omega, hown, rfl, fun x hx => by simp at hx, rfl, hb⟩
  case round =>
    obtain ⟨k, out, cr, hk, rfl, rfl, hc0, hc1, hown1, hol, how, hval, hb1⟩ := hrel
    have HOL := Lib.hid hol
    have HOW := Lib.hid how
    clear hol how hown hb
    have hsz := hb1.size
    by_cases hkx : k < xs.length
    · obtain ⟨b1, o1, rfl, -, hcx⟩ := (H.out.keep hb1).addr (by omega)
      have hx := hcx k hkx
      clear hcx
      have bx := words_getD HWX.out k
      obtain ⟨x, ex⟩ : ∃ x, x = xs.getD k 0 := ⟨_, rfl⟩
      rw [← ex] at hx bx
      have EX := Lib.hid ex; clear ex
      have by_ := words_getD HWY.out k
      obtain ⟨y, ey⟩ : ∃ y, y = ys.getD k 0 := ⟨_, rfl⟩
      rw [← ey] at by_
      have EY := Lib.hid ey; clear ey
      obtain ⟨bx0, bx1⟩ := bx
      obtain ⟨by0, by1⟩ := by_
      have hs0 : 0 ≤ (x + y + cr) % 4294967296 := by omega
      have hs1 : (x + y + cr) % 4294967296 ≤ 4294967295 := by omega
      have hq0 : 0 ≤ (x + y + cr) / 4294967296 := by omega
      have hq1 : (x + y + cr) / 4294967296 ≤ 1 := by omega
      have hT : Hid (bval (out ++ [(x + y + cr) % 4294967296]) + 4294967296 ^ (k + 1) * ((x + y + cr) / 4294967296).toNat = bval (xs.take (k + 1)) + bval (ys.take (k + 1))) := by
        show _ = _
        rw [bval_append, bval_take_succ, bval_take_succ, ← EX.out, ← EY.out, HOL.out, Nat.pow_succ]
        have hv := hval.out
        have e1 : x.toNat + y.toNat + cr.toNat = ((x + y + cr) % 4294967296).toNat + 4294967296 * ((x + y + cr) / 4294967296).toNat := by omega
        simp only [bval, Nat.mul_zero, Nat.add_zero]
        generalize 4294967296 ^ k = q at *
        have e2 : q * x.toNat + q * y.toNat + q * cr.toNat = q * ((x + y + cr) % 4294967296).toNat + q * 4294967296 * ((x + y + cr) / 4294967296).toNat := by
          rw [Nat.mul_assoc, ← Nat.mul_add, ← Nat.mul_add, ← Nat.mul_add, e1]
        omega
      by_cases hky : k < ys.length
      · obtain ⟨b2, o2, rfl, -, hcy⟩ := (G.out.keep hb1).addr (by omega)
        have hy := hcy k hky
        clear hcy
        rw [← EY.out] at hy
        go_wp2_with (first
          | (go_at_call 57; refine (add32_any x y cr _ bx0 bx1 by0 by1 hc0 hc1).mono ?_; rintro e w' ⟨rfl, rfl⟩)
          | (at_builtin; refine Gx.wpList_push wr rfl _ _ 29 rfl w.heap.size 27 (.int .u32 0) 1 4 Tryd.underlying29 Tryd.info_u32 rfl (by decide) _ _ _ [.int .u32 ((x + y + cr) % 4294967296)] _ rfl rfl (by exact hown1) rfl rfl ?a2 ?a3 ?a4 ?a5 ?_))
        case a2 => intro u hu; simp at hu; subst hu; rfl
        case a3 => omega
        case a4 => omega
        case a5 => omega
        intro v' w' hown2 hg2 _ _
        have hb2 : Below w.heap.size w w' := hb1.grown hg2 hsz (fun k e => (hown1.lt k e).1)
        have hown3 : w'.ownsRow w.heap.size 27 1 v' (k + 1) ((out ++ [(x + y + cr) % 4294967296]).map (Value.int .u32)) := by
          rw [List.map_append]; exact hown2
        have hW2 : Words (out ++ [(x + y + cr) % 4294967296]) := by
          intro z hz
          rcases List.mem_append.1 hz with hz | hz
          · exact HOW.out z hz
          · simp at hz; omega
        clear hown1 hown2 hg2
        go_wp2
        go_roundw
        case rel => exact ⟨k + 1, out ++ [(x + y + cr) % 4294967296], (x + y + cr) / 4294967296, by omega, by go_num, rfl, hq0, hq1, hown3, by simp [HOL.out], hW2, hT, hb2⟩
        case measure => simp [intOf]; omega
      · have hy0 : y = 0 := by rw [EY.out]; simp [List.getD, List.getElem?_eq_none (show ys.length ≤ k by omega)]
        subst hy0
        simp only [Int.add_zero] at hs0 hs1 hq0 hq1 hT
        go_wp2_with (first
          | (go_at_call 57; refine (add32_any x 0 cr _ bx0 bx1 by0 by1 hc0 hc1).mono ?_; rintro e w' ⟨rfl, rfl⟩)
          | (at_builtin; refine Gx.wpList_push wr rfl _ _ 29 rfl w.heap.size 27 (.int .u32 0) 1 4 Tryd.underlying29 Tryd.info_u32 rfl (by decide) _ _ _ [.int .u32 ((x + cr) % 4294967296)] _ rfl rfl (by exact hown1) rfl rfl ?b2 ?b3 ?b4 ?b5 ?_))
        case b2 => intro u hu; simp at hu; subst hu; rfl
        case b3 => omega
        case b4 => omega
        case b5 => omega
        intro v' w' hown2 hg2 _ _
        have hb2 : Below w.heap.size w w' := hb1.grown hg2 hsz (fun k e => (hown1.lt k e).1)
        have hown3 : w'.ownsRow w.heap.size 27 1 v' (k + 1) ((out ++ [(x + cr) % 4294967296]).map (Value.int .u32)) := by
          rw [List.map_append]; exact hown2
        have hW2 : Words (out ++ [(x + cr) % 4294967296]) := by
          intro z hz
          rcases List.mem_append.1 hz with hz | hz
          · exact HOW.out z hz
          · simp at hz; omega
        clear hown1 hown2 hg2
        go_wp2
        go_roundw
        case rel => exact ⟨k + 1, out ++ [(x + cr) % 4294967296], (x + cr) / 4294967296, by omega, by go_num, rfl, hq0, hq1, hown3, by simp [HOL.out], hW2, hT, hb2⟩
        case measure => simp [intOf]; omega
    · obtain rfl : k = xs.length := by omega
      go_wp2_with (first
        | (at_builtin; refine Gx.wpList_push wr rfl _ _ 29 rfl w.heap.size 27 (.int .u32 0) 1 4 Tryd.underlying29 Tryd.info_u32 rfl (by decide) _ _ _ [.int .u32 cr] _ rfl rfl (by exact hown1) rfl rfl ?d2 ?d3 ?d4 ?d5 ?_))
      case d2 => intro u hu; simp at hu; subst hu; rfl
      case d3 => omega
      case d4 => omega
      case d5 => omega
      intro v' w' hown2 hg2 _ _
      have hb2 : Below w.heap.size w w' := hb1.grown hg2 hsz (fun k e => (hown1.lt k e).1)
      have hW2 : Words (out ++ [cr]) := by
        intro z hz
        rcases List.mem_append.1 hz with hz | hz
        · exact HOW.out z hz
        · simp at hz; omega
      obtain ⟨ad', cap', rfl, hr⟩ := Gx.Rd.own (k := .u32) (xs := out ++ [cr]) (by simpa using hown2) (wf_words hW2)
      have hlen : (out ++ [cr]).length = xs.length + 1 := by simp [HOL.out]
      have hfin : bval (out ++ [cr]) = bval xs + bval ys := by
        rw [bval_append, HOL.out]
        have := hval.out
        rw [List.take_of_length_le (Nat.le_refl _), List.take_of_length_le (by omega)] at this
        simp only [bval, Nat.mul_zero, Nat.add_zero]
        omega
      have HF := Lib.hid hfin
      have HL := Lib.hid hlen
      have HR := Lib.hid hr
      clear hown1 hown2 hg2 hW2 hfin hlen hr
      generalize out ++ [cr] = zs at *
      go_wp2_with (first
        | (go_at_call 26; refine (trimmed_any ad' cap' zs _ HR.out (by rw [HL.out]; omega)).mono ?_; rintro e w' ⟨rfl, rfl⟩))
      go_ret
      refine ⟨ad', cap', ?_, ?_, hb2⟩
      · rw [← HF.out]; rfl
      · rw [← HF.out]; exact HR.out.trim


set_option maxHeartbeats 1000000 in
theorem bigAdd_lt (ad bd : Option Addr) (ca cb : Nat) (xs ys : List Int) (w : World) (h : Rd .u32 w ad ca xs) (g : Rd .u32 w bd cb ys) (hl : ys.length ≤ 1073741824) (hyx : xs.length < ys.length) :
    Calls Tryd.prog 41 #[.slice ad xs.length ca, .slice bd ys.length cb] w (WordsPost (bval xs + bval ys) w) := by
  have hwx := words_of_rd g
  have hwy := words_of_rd h
  have H := Lib.hid g
  have G := Lib.hid h
  have HWX := Lib.hid hwx
  have HWY := Lib.hid hwy
  clear h g hwx hwy
  have hlt : decide ((xs.length : Int) < (ys.length : Int)) = true := by simp; omega
  go_enter Tryd.func41, Tryd.ntmps41
  obtain ⟨i0, hi, hz0, hz1, hz2⟩ := info_parts Tryd.info_u32
  have HI := Lib.hid hi
  have HZ0 := Lib.hid hz0
  have HZ1 := Lib.hid hz1
  clear hi hz0 hz1
  go_wp2_with (first
    | (at_make; refine wpList_make_own _ rfl _ _ 29 rfl w.heap.size 27 i0 (.int .u32 0) 1 Tryd.underlying29 HI.out HZ0.out HZ1.out .i64 .i64 _ (ys.length + 1) rfl rfl (by omega) (by rw [hz2]; omega) (by unfold maxLen; omega) (Nat.le_refl _) ?_))
  intro w1 hown hg
  have hb : Below w.heap.size w w1 := Gx.grown_below hg (Nat.le_refl _) (by simp)
  clear hg
  obtain ⟨v0, hv0⟩ : ∃ v0, v0 = Value.slice (some ⟨w.heap.size, 0, none⟩) 0 (ys.length + 1) := ⟨_, rfl⟩
  rw [← hv0] at hown ⊢
  clear hv0
  go_wp2
  go_loopw [5, 6, 23] (fun v c i wr => ∃ (k : Nat) (out : List Int) (cr : Int), k ≤ ys.length ∧ i = .int .i64 k ∧ c = .int .u32 cr ∧ 0 ≤ cr ∧ cr ≤ 1 ∧
      wr.ownsRow w.heap.size 27 1 v k (out.map (Value.int .u32)) ∧ out.length = k ∧ Words out ∧ Hid (bval out + 4294967296 ^ k * cr.toNat = bval (ys.take k) + bval (xs.take k)) ∧ Below w.heap.size w wr)
    (fun _ _ i _ => ys.length - (intOf i).toNat)
  case atStart => exact ⟨0, [], 0, Nat.zero_le _, rfl, rfl, by omega, by omega, hown, rfl, fun x hx => by simp at hx, rfl, hb⟩
  case round =>
    obtain ⟨k, out, cr, hk, rfl, rfl, hc0, hc1, hown1, hol, how, hval, hb1⟩ := hrel
    have HOL := Lib.hid hol
    have HOW := Lib.hid how
    clear hol how hown hb
    have hsz := hb1.size
    by_cases hkx : k < ys.length
    · obtain ⟨b1, o1, rfl, -, hcx⟩ := (H.out.keep hb1).addr (by omega)
      have hx := hcx k hkx
      clear hcx
      have bx := words_getD HWX.out k
      obtain ⟨x, ex⟩ : ∃ x, x = ys.getD k 0 := ⟨_, rfl⟩
      rw [← ex] at hx bx
      have EX := Lib.hid ex; clear ex
      have by_ := words_getD HWY.out k
      obtain ⟨y, ey⟩ : ∃ y, y = xs.getD k 0 := ⟨_, rfl⟩
      rw [← ey] at by_
      have EY := Lib.hid ey; clear ey
      obtain ⟨bx0, bx1⟩ := bx
      obtain ⟨by0, by1⟩ := by_
      have hs0 : 0 ≤ (x + y + cr) % 4294967296 := by omega
      have hs1 : (x + y + cr) % 4294967296 ≤ 4294967295 := by omega
      have hq0 : 0 ≤ (x + y + cr) / 4294967296 := by omega
      have hq1 : (x + y + cr) / 4294967296 ≤ 1 := by omega
      have hT : Hid (bval (out ++ [(x + y + cr) % 4294967296]) + 4294967296 ^ (k + 1) * ((x + y + cr) / 4294967296).toNat = bval (ys.take (k + 1)) + bval (xs.take (k + 1))) := by
        show _ = _
        rw [bval_append, bval_take_succ, bval_take_succ, ← EX.out, ← EY.out, HOL.out, Nat.pow_succ]
        have hv := hval.out
        have e1 : x.toNat + y.toNat + cr.toNat = ((x + y + cr) % 4294967296).toNat + 4294967296 * ((x + y + cr) / 4294967296).toNat := by omega
        simp only [bval, Nat.mul_zero, Nat.add_zero]
        generalize 4294967296 ^ k = q at *
        have e2 : q * x.toNat + q * y.toNat + q * cr.toNat = q * ((x + y + cr) % 4294967296).toNat + q * 4294967296 * ((x + y + cr) / 4294967296).toNat := by
          rw [Nat.mul_assoc, ← Nat.mul_add, ← Nat.mul_add, ← Nat.mul_add, e1]
        omega
      by_cases hky : k < xs.length
      · obtain ⟨b2, o2, rfl, -, hcy⟩ := (G.out.keep hb1).addr (by omega)
        have hy := hcy k hky
        clear hcy
        rw [← EY.out] at hy
        go_wp2_with (first
          | (go_at_call 57; refine (add32_any x y cr _ bx0 bx1 by0 by1 hc0 hc1).mono ?_; rintro e w' ⟨rfl, rfl⟩)
          | (at_builtin; refine Gx.wpList_push wr rfl _ _ 29 rfl w.heap.size 27 (.int .u32 0) 1 4 Tryd.underlying29 Tryd.info_u32 rfl (by decide) _ _ _ [.int .u32 ((x + y + cr) % 4294967296)] _ rfl rfl (by exact hown1) rfl rfl ?a2 ?a3 ?a4 ?a5 ?_))
        case a2 => intro u hu; simp at hu; subst hu; rfl
        case a3 => omega
        case a4 => omega
        case a5 => omega
        intro v' w' hown2 hg2 _ _
        have hb2 : Below w.heap.size w w' := hb1.grown hg2 hsz (fun k e => (hown1.lt k e).1)
        have hown3 : w'.ownsRow w.heap.size 27 1 v' (k + 1) ((out ++ [(x + y + cr) % 4294967296]).map (Value.int .u32)) := by
          rw [List.map_append]; exact hown2
        have hW2 : Words (out ++ [(x + y + cr) % 4294967296]) := by
          intro z hz
          rcases List.mem_append.1 hz with hz | hz
          · exact HOW.out z hz
          · simp at hz; omega
        clear hown1 hown2 hg2
        go_wp2
        go_roundw
        case rel => exact ⟨k + 1, out ++ [(x + y + cr) % 4294967296], (x + y + cr) / 4294967296, by omega, by go_num, rfl, hq0, hq1, hown3, by simp [HOL.out], hW2, hT, hb2⟩
        case measure => simp [intOf]; omega
      · have hy0 : y = 0 := by rw [EY.out]; simp [List.getD, List.getElem?_eq_none (show xs.length ≤ k by omega)]
        subst hy0
        simp only [Int.add_zero] at hs0 hs1 hq0 hq1 hT
        go_wp2_with (first
          | (go_at_call 57; refine (add32_any x 0 cr _ bx0 bx1 by0 by1 hc0 hc1).mono ?_; rintro e w' ⟨rfl, rfl⟩)
          | (at_builtin; refine Gx.wpList_push wr rfl _ _ 29 rfl w.heap.size 27 (.int .u32 0) 1 4 Tryd.underlying29 Tryd.info_u32 rfl (by decide) _ _ _ [.int .u32 ((x + cr) % 4294967296)] _ rfl rfl (by exact hown1) rfl rfl ?b2 ?b3 ?b4 ?b5 ?_))
        case b2 => intro u hu; simp at hu; subst hu; rfl
        case b3 => omega
        case b4 => omega
        case b5 => omega
        intro v' w' hown2 hg2 _ _
        have hb2 : Below w.heap.size w w' := hb1.grown hg2 hsz (fun k e => (hown1.lt k e).1)
        have hown3 : w'.ownsRow w.heap.size 27 1 v' (k + 1) ((out ++ [(x + cr) % 4294967296]).map (Value.int .u32)) := by
          rw [List.map_append]; exact hown2
        have hW2 : Words (out ++ [(x + cr) % 4294967296]) := by
          intro z hz
          rcases List.mem_append.1 hz with hz | hz
          · exact HOW.out z hz
          · simp at hz; omega
        clear hown1 hown2 hg2
        go_wp2
        go_roundw
        case rel => exact ⟨k + 1, out ++ [(x + cr) % 4294967296], (x + cr) / 4294967296, by omega, by go_num, rfl, hq0, hq1, hown3, by simp [HOL.out], hW2, hT, hb2⟩
        case measure => simp [intOf]; omega
    · obtain rfl : k = ys.length := by omega
      go_wp2_with (first
        | (at_builtin; refine Gx.wpList_push wr rfl _ _ 29 rfl w.heap.size 27 (.int .u32 0) 1 4 Tryd.underlying29 Tryd.info_u32 rfl (by decide) _ _ _ [.int .u32 cr] _ rfl rfl (by exact hown1) rfl rfl ?d2 ?d3 ?d4 ?d5 ?_))
      case d2 => intro u hu; simp at hu; subst hu; rfl
      case d3 => omega
      case d4 => omega
      case d5 => omega
      intro v' w' hown2 hg2 _ _
      have hb2 : Below w.heap.size w w' := hb1.grown hg2 hsz (fun k e => (hown1.lt k e).1)
      have hW2 : Words (out ++ [cr]) := by
        intro z hz
        rcases List.mem_append.1 hz with hz | hz
        · exact HOW.out z hz
        · simp at hz; omega
      obtain ⟨ad', cap', rfl, hr⟩ := Gx.Rd.own (k := .u32) (xs := out ++ [cr]) (by simpa using hown2) (wf_words hW2)
      have hlen : (out ++ [cr]).length = ys.length + 1 := by simp [HOL.out]
      have hfin : bval (out ++ [cr]) = bval xs + bval ys := by
        rw [bval_append, HOL.out]
        have := hval.out
        rw [List.take_of_length_le (Nat.le_refl _), List.take_of_length_le (by omega)] at this
        simp only [bval, Nat.mul_zero, Nat.add_zero]
        omega
      have HF := Lib.hid hfin
      have HL := Lib.hid hlen
      have HR := Lib.hid hr
      clear hown1 hown2 hg2 hW2 hfin hlen hr
      generalize out ++ [cr] = zs at *
      go_wp2_with (first
        | (go_at_call 26; refine (trimmed_any ad' cap' zs _ HR.out (by rw [HL.out]; omega)).mono ?_; rintro e w' ⟨rfl, rfl⟩))
      go_ret
      refine ⟨ad', cap', ?_, ?_, hb2⟩
      · rw [← HF.out]; rfl
      · rw [← HF.out]; exact HR.out.trim


theorem bigAdd_any (ad bd : Option Addr) (ca cb : Nat) (xs ys : List Int) (w : World) (h : Rd .u32 w ad ca xs) (g : Rd .u32 w bd cb ys) (hl : xs.length ≤ 1073741824) (hl2 : ys.length ≤ 1073741824) :
    Calls Tryd.prog 41 #[.slice ad xs.length ca, .slice bd ys.length cb] w (WordsPost (bval xs + bval ys) w) := by
  rcases Nat.lt_or_ge xs.length ys.length with hc | hc
  · exact bigAdd_lt ad bd ca cb xs ys w h g hl2 hc
  · exact bigAdd_ge ad bd ca cb xs ys w h g hl hc
end Go.Proofs.YtmieegcnfnoiiaaDoor
namespace Go.Proofs.YtmieegcnfnoiiaaDoor
open Go.RowKit Gx
set_option maxRecDepth 100000

theorem canon_of_big (a : List Int) (h : Words a) (hb : 4294967296 ^ (a.length - 1) ≤ bval a) : canon (bval a) = a := by
  refine canon_bval a h ?_
  intro x hx h0
  subst h0
  obtain ⟨b, rfl⟩ := List.getLast?_eq_some_iff.1 hx
  rw [bval_append] at hb
  have := bval_lt b (fun y hy => h y (by simp [hy]))
  simp [bval] at hb
  omega

set_option maxHeartbeats 1000000 in
theorem bigLeft_any (ad : Option Addr) (ca v n : Nat) (w : World) (h : Rd .u32 w ad ca (canon v)) (hl : (canon v).length ≤ 1048576) (hv : v ≠ 0) (hn : n ≤ 31) :
    Calls Tryd.prog 32 #[.slice ad (canon v).length ca, .int .i64 n] w (WordsPost (v * 2 ^ n) w) := by
  obtain ⟨xs, hxs⟩ : ∃ xs, xs = canon v := ⟨_, rfl⟩
  have hbv : bval xs = v := by rw [hxs, bval_canon]
  have hgt := canon_len_gt v hv
  rw [← hxs] at h hl hgt ⊢
  have hwx := words_of_rd h
  have H := Lib.hid h
  have HWX := Lib.hid hwx
  have HBV := Lib.hid hbv
  have HGT := Lib.hid hgt
  clear h hwx hxs hbv hgt
  go_enter Tryd.func32, Tryd.ntmps32
  obtain ⟨i0, hi, hz0, hz1, hz2⟩ := info_parts Tryd.info_u32
  have HI := Lib.hid hi
  have HZ0 := Lib.hid hz0
  have HZ1 := Lib.hid hz1
  clear hi hz0 hz1
  go_wp2_with (first
    | (at_make; refine wpList_make_own _ rfl _ _ 29 rfl w.heap.size 27 i0 (.int .u32 0) 1 Tryd.underlying29 HI.out HZ0.out HZ1.out .i64 .i64 _ (xs.length + 2) rfl rfl (by omega) (by rw [hz2]; omega) (by unfold maxLen; omega) (Nat.le_refl _) ?_))
  intro w1 hown hg
  have hb : Below w.heap.size w w1 := Gx.grown_below hg (Nat.le_refl _) (by simp)
  clear hg
  obtain ⟨v0, hv0⟩ : ∃ v0, v0 = Value.slice (some ⟨w.heap.size, 0, none⟩) 0 (xs.length + 2) := ⟨_, rfl⟩
  rw [← hv0] at hown ⊢
  clear hv0
  have a1 : IntKind.u64.wrap (n : Int) = (n : Int) := by rw [IntKind.wrap_u64]; omega
  have a2 : IntKind.i64.wrap (32 - (n : Int)) = ((32 - n : Nat) : Int) := by rw [IntKind.wrap_i64]; omega
  have a3 : IntKind.u64.wrap ((32 - n : Nat) : Int) = ((32 - n : Nat) : Int) := by rw [IntKind.wrap_u64]; omega
  have a4 : (32 : Int) - (n : Int) = ((32 - n : Nat) : Int) := by omega
  have a5 : min n 32 = n := by omega
  have a6 : min (32 - n) 64 = 32 - n := by omega
  go_wp2
  go_loopw [5, 6, 15] (fun v c i wr => ∃ (k : Nat) (out : List Int) (low : Nat), k ≤ xs.length ∧ i = .int .i64 k ∧ c = .int .u32 low ∧ low < 4294967296 ∧ Hid (low < 2 ^ n) ∧
      wr.ownsRow w.heap.size 27 1 v k (out.map (Value.int .u32)) ∧ Hid (out.length = k) ∧ Hid (Words out) ∧ Hid (bval out + 4294967296 ^ k * low = bval (xs.take k) * 2 ^ n) ∧ Below w.heap.size w wr)
    (fun _ _ i _ => xs.length - (intOf i).toNat)
  case atStart => exact ⟨0, [], 0, Nat.zero_le _, rfl, rfl, by decide, Nat.two_pow_pos n, hown, rfl, fun x hx => by simp at hx, by show _ = _; simp [bval], hb⟩
  case round =>
    obtain ⟨k, out, low, hk, rfl, rfl, hlw, hln, hown1, hol, how, hval, hb1⟩ := hrel
    clear hown hb
    have hsz := hb1.size
    by_cases hkx : k < xs.length
    · obtain ⟨b1, o1, rfl, -, hcx⟩ := (H.out.keep hb1).addr (by omega)
      have hx := hcx k hkx
      clear hcx
      obtain ⟨bx0, bx1⟩ := words_getD HWX.out k
      obtain ⟨x, ex⟩ : ∃ x : Nat, (x : Int) = xs.getD k 0 := ⟨(xs.getD k 0).toNat, by omega⟩
      rw [← ex] at hx bx1
      have EX := Lib.hid ex
      clear ex bx0
      obtain ⟨e1, e2, e3, e4⟩ := left_word n x low hn (by omega) hln.out
      obtain ⟨y, hy⟩ : ∃ y, y = x * 2 ^ n % 4294967296 + low := ⟨_, rfl⟩
      obtain ⟨z, hz⟩ : ∃ z, z = x / 2 ^ (32 - n) := ⟨_, rfl⟩
      have hzi : (x : Int) / 2 ^ (32 - n) = (z : Int) := by rw [hz, Int.natCast_ediv, Int.natCast_pow]; rfl
      have hzl : z ≤ x := by rw [hz]; exact Nat.div_le_self _ _
      rw [← hy] at e1 e3 e4
      rw [← hz] at e2 e4
      have e5 : (z : Int) % 4294967296 = (z : Int) := by omega
      have E2 := Lib.hid e2
      have E4 := Lib.hid e4
      clear hy hz e2 e4
      have hT : Hid (bval (out ++ [(y : Int)]) + 4294967296 ^ (k + 1) * z = bval (xs.take (k + 1)) * 2 ^ n) := by
        show _ = _
        rw [bval_append, bval_take_succ, ← EX.out, hol.out, Nat.pow_succ, Nat.add_mul, ← hval.out]
        simp only [bval, Nat.mul_zero, Nat.add_zero, Int.toNat_natCast]
        have h4 := E4.out
        generalize 4294967296 ^ k = q at *
        have h5 : q * y + q * 4294967296 * z = q * (x * 2 ^ n) + q * low := by
          rw [Nat.mul_assoc, ← Nat.mul_add, ← Nat.mul_add, h4]
        rw [Nat.mul_assoc q x]
        omega
      have hW2 : Words (out ++ [(y : Int)]) := by
        intro u hu
        rcases List.mem_append.1 hu with hu | hu
        · exact how.out u hu
        · simp at hu; omega
      have HW2 := Lib.hid hW2
      clear hW2
      go_wp2_with (first
        | (at_builtin; refine Gx.wpList_push wr rfl _ _ 29 rfl w.heap.size 27 (.int .u32 0) 1 4 Tryd.underlying29 Tryd.info_u32 rfl (by decide) _ _ _ [.int .u32 (y : Int)] _ rfl rfl (by exact hown1) rfl rfl ?a2 ?a3 ?a4 ?a5 ?_))
      case a2 => intro u hu; simp at hu; subst hu; rfl
      case a3 => omega
      case a4 => omega
      case a5 => omega
      intro v' w' hown2 hg2 _ _
      have hb2 : Below w.heap.size w w' := hb1.grown hg2 hsz (fun k e => (hown1.lt k e).1)
      have hown3 : w'.ownsRow w.heap.size 27 1 v' (k + 1) ((out ++ [(y : Int)]).map (Value.int .u32)) := by
        rw [List.map_append]; exact hown2
      clear hown1 hown2 hg2
      go_wp2
      go_roundw
      case rel => exact ⟨k + 1, out ++ [(y : Int)], z, by omega, by go_num, rfl, by omega, E2, hown3, by simp [Hid, hol.out], HW2, hT, hb2⟩
      case measure => simp [intOf]; omega
    · obtain rfl : k = xs.length := by omega
      have hv := hval.out
      rw [List.take_of_length_le (Nat.le_refl _), HBV.out] at hv
      have hvv : v ≤ v * 2 ^ n := Nat.le_mul_of_pos_right _ (Nat.two_pow_pos n)
      by_cases h0 : low = 0
      · subst h0
        have hc : canon (v * 2 ^ n) = out := by
          rw [← hv, Nat.mul_zero, Nat.add_zero]
          refine canon_of_big out how.out ?_
          have := HGT.out
          rw [hol.out]; omega
        have HC := Lib.hid hc
        clear hc hv hvv
        obtain ⟨ad', cap', he, hrd⟩ := Gx.Rd.own (k := .u32) (xs := out) hown1 (wf_words how.out)
        have HR := Lib.hid hrd
        clear hrd hown1
        rw [he]
        clear he
        go_wp2
        go_ret
        exact ⟨ad', cap', by rw [HC.out]; rfl, by rw [HC.out]; exact HR.out, hb1⟩
      · have hpos : decide ((0 : Int) < (low : Int)) = true := by simp; omega
        have hW2 : Words (out ++ [(low : Int)]) := by
          intro u hu
          rcases List.mem_append.1 hu with hu | hu
          · exact how.out u hu
          · simp at hu; omega
        have hc : canon (v * 2 ^ n) = out ++ [(low : Int)] := by
          have e : v * 2 ^ n = bval (out ++ [(low : Int)]) := by
            rw [bval_append, hol.out, ← hv]; simp [bval]
          rw [e]
          refine canon_of_big _ hW2 ?_
          rw [← e, ← hv, List.length_append, hol.out]
          simp only [List.length_cons, List.length_nil, Nat.zero_add, Nat.add_sub_cancel]
          have : 4294967296 ^ xs.length * 1 ≤ 4294967296 ^ xs.length * low := Nat.mul_le_mul_left _ (by omega)
          omega
        have HC := Lib.hid hc
        have HW2 := Lib.hid hW2
        clear hc hv hvv hW2
        go_wp2_with (first
          | (at_builtin; refine Gx.wpList_push wr rfl _ _ 29 rfl w.heap.size 27 (.int .u32 0) 1 4 Tryd.underlying29 Tryd.info_u32 rfl (by decide) _ _ _ [.int .u32 (low : Int)] _ rfl rfl (by exact hown1) rfl rfl ?d2 ?d3 ?d4 ?d5 ?_))
        case d2 => intro u hu; simp at hu; subst hu; rfl
        case d3 => omega
        case d4 => omega
        case d5 => omega
        intro v' w' hown2 hg2 _ _
        have hb2 : Below w.heap.size w w' := hb1.grown hg2 hsz (fun k e => (hown1.lt k e).1)
        obtain ⟨ad', cap', he, hrd⟩ := Gx.Rd.own (k := .u32) (xs := out ++ [(low : Int)]) (by simpa using hown2) (wf_words HW2.out)
        have HR := Lib.hid hrd
        clear hrd hown1 hown2 hg2
        rw [he]
        clear he
        go_wp2
        go_ret
        exact ⟨ad', cap', by rw [HC.out]; rfl, by rw [HC.out]; exact HR.out, hb2⟩
end Go.Proofs.YtmieegcnfnoiiaaDoor
namespace Go.Proofs.YtmieegcnfnoiiaaDoor
open Go.RowKit Gx
set_option maxRecDepth 100000

/-- words that a call has made, in a row of its own -/
def OwnPost (n : Nat) (w : World) (e : Ending) (w' : World) : Prop :=
  ∃ vo vc, e = .returned (.slice vo (canon n).length vc) ∧ w'.ownsRow w.heap.size 27 1 (.slice vo (canon n).length vc) (canon n).length ((canon n).map (Value.int .u32)) ∧ Below w.heap.size w w'

set_option maxHeartbeats 1000000 in
theorem bigLeft_own (ad : Option Addr) (ca v n : Nat) (w : World) (h : Rd .u32 w ad ca (canon v)) (hl : (canon v).length ≤ 1048576) (hv : v ≠ 0) (hn : n ≤ 31) :
    Calls Tryd.prog 32 #[.slice ad (canon v).length ca, .int .i64 n] w (OwnPost (v * 2 ^ n) w) := by
  obtain ⟨xs, hxs⟩ : ∃ xs, xs = canon v := ⟨_, rfl⟩
  have hbv : bval xs = v := by rw [hxs, bval_canon]
  have hgt := canon_len_gt v hv
  rw [← hxs] at h hl hgt ⊢
  have hwx := words_of_rd h
  have H := Lib.hid h
  have HWX := Lib.hid hwx
  have HBV := Lib.hid hbv
  have HGT := Lib.hid hgt
  clear h hwx hxs hbv hgt
  go_enter Tryd.func32, Tryd.ntmps32
  obtain ⟨i0, hi, hz0, hz1, hz2⟩ := info_parts Tryd.info_u32
  have HI := Lib.hid hi
  have HZ0 := Lib.hid hz0
  have HZ1 := Lib.hid hz1
  clear hi hz0 hz1
  go_wp2_with (first
    | (at_make; refine wpList_make_own _ rfl _ _ 29 rfl w.heap.size 27 i0 (.int .u32 0) 1 Tryd.underlying29 HI.out HZ0.out HZ1.out .i64 .i64 _ (xs.length + 2) rfl rfl (by omega) (by rw [hz2]; omega) (by unfold maxLen; omega) (Nat.le_refl _) ?_))
  intro w1 hown hg
  have hb : Below w.heap.size w w1 := Gx.grown_below hg (Nat.le_refl _) (by simp)
  clear hg
  obtain ⟨v0, hv0⟩ : ∃ v0, v0 = Value.slice (some ⟨w.heap.size, 0, none⟩) 0 (xs.length + 2) := ⟨_, rfl⟩
  rw [← hv0] at hown ⊢
  clear hv0
  have a1 : IntKind.u64.wrap (n : Int) = (n : Int) := by rw [IntKind.wrap_u64]; omega
  have a2 : IntKind.i64.wrap (32 - (n : Int)) = ((32 - n : Nat) : Int) := by rw [IntKind.wrap_i64]; omega
  have a3 : IntKind.u64.wrap ((32 - n : Nat) : Int) = ((32 - n : Nat) : Int) := by rw [IntKind.wrap_u64]; omega
  have a4 : (32 : Int) - (n : Int) = ((32 - n : Nat) : Int) := by omega
  have a5 : min n 32 = n := by omega
  have a6 : min (32 - n) 64 = 32 - n := by omega
  go_wp2
  go_loopw [5, 6, 15] (fun v c i wr => ∃ (k : Nat) (out : List Int) (low : Nat), k ≤ xs.length ∧ i = .int .i64 k ∧ c = .int .u32 low ∧ low < 4294967296 ∧ Hid (low < 2 ^ n) ∧
      wr.ownsRow w.heap.size 27 1 v k (out.map (Value.int .u32)) ∧ Hid (out.length = k) ∧ Hid (Words out) ∧ Hid (bval out + 4294967296 ^ k * low = bval (xs.take k) * 2 ^ n) ∧ Below w.heap.size w wr)
    (fun _ _ i _ => xs.length - (intOf i).toNat)
  case atStart => exact ⟨0, [], 0, Nat.zero_le _, rfl, rfl, by decide, Nat.two_pow_pos n, hown, rfl, fun x hx => by simp at hx, by show _ = _; simp [bval], hb⟩
  case round =>
    obtain ⟨k, out, low, hk, rfl, rfl, hlw, hln, hown1, hol, how, hval, hb1⟩ := hrel
    clear hown hb
    have hsz := hb1.size
    by_cases hkx : k < xs.length
    · obtain ⟨b1, o1, rfl, -, hcx⟩ := (H.out.keep hb1).addr (by omega)
      have hx := hcx k hkx
      clear hcx
      obtain ⟨bx0, bx1⟩ := words_getD HWX.out k
      obtain ⟨x, ex⟩ : ∃ x : Nat, (x : Int) = xs.getD k 0 := ⟨(xs.getD k 0).toNat, by omega⟩
      rw [← ex] at hx bx1
      have EX := Lib.hid ex
      clear ex bx0
      obtain ⟨e1, e2, e3, e4⟩ := left_word n x low hn (by omega) hln.out
      obtain ⟨y, hy⟩ : ∃ y, y = x * 2 ^ n % 4294967296 + low := ⟨_, rfl⟩
      obtain ⟨z, hz⟩ : ∃ z, z = x / 2 ^ (32 - n) := ⟨_, rfl⟩
      have hzi : (x : Int) / 2 ^ (32 - n) = (z : Int) := by rw [hz, Int.natCast_ediv, Int.natCast_pow]; rfl
      have hzl : z ≤ x := by rw [hz]; exact Nat.div_le_self _ _
      rw [← hy] at e1 e3 e4
      rw [← hz] at e2 e4
      have e5 : (z : Int) % 4294967296 = (z : Int) := by omega
      have E2 := Lib.hid e2
      have E4 := Lib.hid e4
      clear hy hz e2 e4
      have hT : Hid (bval (out ++ [(y : Int)]) + 4294967296 ^ (k + 1) * z = bval (xs.take (k + 1)) * 2 ^ n) := by
        show _ = _
        rw [bval_append, bval_take_succ, ← EX.out, hol.out, Nat.pow_succ, Nat.add_mul, ← hval.out]
        simp only [bval, Nat.mul_zero, Nat.add_zero, Int.toNat_natCast]
        have h4 := E4.out
        generalize 4294967296 ^ k = q at *
        have h5 : q * y + q * 4294967296 * z = q * (x * 2 ^ n) + q * low := by
          rw [Nat.mul_assoc, ← Nat.mul_add, ← Nat.mul_add, h4]
        rw [Nat.mul_assoc q x]
        omega
      have hW2 : Words (out ++ [(y : Int)]) := by
        intro u hu
        rcases List.mem_append.1 hu with hu | hu
        · exact how.out u hu
        · simp at hu; omega
      have HW2 := Lib.hid hW2
      clear hW2
      go_wp2_with (first
        | (at_builtin; refine Gx.wpList_push wr rfl _ _ 29 rfl w.heap.size 27 (.int .u32 0) 1 4 Tryd.underlying29 Tryd.info_u32 rfl (by decide) _ _ _ [.int .u32 (y : Int)] _ rfl rfl (by exact hown1) rfl rfl ?a2 ?a3 ?a4 ?a5 ?_))
      case a2 => intro u hu; simp at hu; subst hu; rfl
      case a3 => omega
      case a4 => omega
      case a5 => omega
      intro v' w' hown2 hg2 _ _
      have hb2 : Below w.heap.size w w' := hb1.grown hg2 hsz (fun k e => (hown1.lt k e).1)
      have hown3 : w'.ownsRow w.heap.size 27 1 v' (k + 1) ((out ++ [(y : Int)]).map (Value.int .u32)) := by
        rw [List.map_append]; exact hown2
      clear hown1 hown2 hg2
      go_wp2
      go_roundw
      case rel => exact ⟨k + 1, out ++ [(y : Int)], z, by omega, by go_num, rfl, by omega, E2, hown3, by simp [Hid, hol.out], HW2, hT, hb2⟩
      case measure => simp [intOf]; omega
    · obtain rfl : k = xs.length := by omega
      have hv := hval.out
      rw [List.take_of_length_le (Nat.le_refl _), HBV.out] at hv
      have hvv : v ≤ v * 2 ^ n := Nat.le_mul_of_pos_right _ (Nat.two_pow_pos n)
      by_cases h0 : low = 0
      · subst h0
        have hc : canon (v * 2 ^ n) = out := by
          rw [← hv, Nat.mul_zero, Nat.add_zero]
          refine canon_of_big out how.out ?_
          have := HGT.out
          rw [hol.out]; omega
        have HC := Lib.hid hc
        clear hc hv hvv
        obtain ⟨vo, vc, rfl⟩ := own_form hown1
        have HR := Lib.hid hown1
        clear hown1
        have HE := Lib.hid hol.out
        go_wp2
        go_ret
        exact ⟨vo, vc, by rw [HC.out, HE.out]; rfl, by rw [HC.out, HE.out]; exact HR.out, hb1⟩
      · have hpos : decide ((0 : Int) < (low : Int)) = true := by simp; omega
        have hW2 : Words (out ++ [(low : Int)]) := by
          intro u hu
          rcases List.mem_append.1 hu with hu | hu
          · exact how.out u hu
          · simp at hu; omega
        have hc : canon (v * 2 ^ n) = out ++ [(low : Int)] := by
          have e : v * 2 ^ n = bval (out ++ [(low : Int)]) := by
            rw [bval_append, hol.out, ← hv]; simp [bval]
          rw [e]
          refine canon_of_big _ hW2 ?_
          rw [← e, ← hv, List.length_append, hol.out]
          simp only [List.length_cons, List.length_nil, Nat.zero_add, Nat.add_sub_cancel]
          have : 4294967296 ^ xs.length * 1 ≤ 4294967296 ^ xs.length * low := Nat.mul_le_mul_left _ (by omega)
          omega
        have HC := Lib.hid hc
        have HW2 := Lib.hid hW2
        clear hc hv hvv hW2
        go_wp2_with (first
          | (at_builtin; refine Gx.wpList_push wr rfl _ _ 29 rfl w.heap.size 27 (.int .u32 0) 1 4 Tryd.underlying29 Tryd.info_u32 rfl (by decide) _ _ _ [.int .u32 (low : Int)] _ rfl rfl (by exact hown1) rfl rfl ?d2 ?d3 ?d4 ?d5 ?_))
        case d2 => intro u hu; simp at hu; subst hu; rfl
        case d3 => omega
        case d4 => omega
        case d5 => omega
        intro v' w' hown2 hg2 _ _
        have hb2 : Below w.heap.size w w' := hb1.grown hg2 hsz (fun k e => (hown1.lt k e).1)
        have hown3 : w'.ownsRow w.heap.size 27 1 v' (xs.length + 1) ((out ++ [(low : Int)]).map (Value.int .u32)) := by rw [List.map_append]; exact hown2
        obtain ⟨vo, vc, rfl⟩ := own_form hown3
        have HR := Lib.hid hown3
        have HE : Hid ((out ++ [(low : Int)]).length = xs.length + 1) := by show _ = _; simp [hol.out]
        clear hown1 hown2 hown3 hg2
        go_wp2
        go_ret
        exact ⟨vo, vc, by rw [HC.out, HE.out]; rfl, by rw [HC.out, HE.out]; exact HR.out, hb2⟩
end Go.Proofs.YtmieegcnfnoiiaaDoor
namespace Go.Proofs.YtmieegcnfnoiiaaDoor
open Go.RowKit Gx
set_option maxRecDepth 100000

set_option maxHeartbeats 1000000 in
theorem bigRight_any (ad : Option Addr) (ca : Nat) (xs : List Int) (n : Nat) (w : World) (h : Rd .u32 w ad ca xs) (hl : xs.length ≤ 1048576) (hn : n ≤ 31) :
    Calls Tryd.prog 33 #[.slice ad xs.length ca, .int .i64 n] w (WordsPost (bval xs / 2 ^ n) w) := by
  have hwx := words_of_rd h
  have H := Lib.hid h
  have HWX := Lib.hid hwx
  clear h hwx
  go_enter Tryd.func33, Tryd.ntmps33
  obtain ⟨i0, hi, hz0, hz1, hz2⟩ := info_parts Tryd.info_u32
  have HI := Lib.hid hi
  have HZ0 := Lib.hid hz0
  have HZ1 := Lib.hid hz1
  clear hi hz0 hz1
  go_wp2_with (first
    | (at_make; refine wpList_make_full _ rfl _ _ 29 rfl w.heap.size 27 i0 (.int .u32 0) 1 Tryd.underlying29 HI.out HZ0.out HZ1.out .i64 .i64 _ _ xs.length rfl rfl (by omega) (by omega) (by rw [hz2]; omega) (by unfold maxLen; omega) (Nat.le_refl _) ?_))
  intro w1 hown hg
  have hb : Below w.heap.size w w1 := Gx.grown_below hg (Nat.le_refl _) (by simp)
  rw [madeCells_one] at hown
  clear hg hz2 HI HZ0 HZ1
  obtain ⟨m, hm⟩ : ∃ m, m = xs.length := ⟨_, rfl⟩
  obtain ⟨gb, hgb⟩ : ∃ gb, gb = w.heap.size := ⟨_, rfl⟩
  rw [← hm] at hown hl ⊢
  rw [show Value.slice (some ⟨w.heap.size, 0, none⟩) m m = Value.slice (some ⟨gb, 0, none⟩) m m from by rw [hgb]] at hown ⊢
  have HM := Lib.hid hm; clear hm
  have HGB := Lib.hid hgb; clear hgb
  have a1 : IntKind.u64.wrap (n : Int) = (n : Int) := by rw [IntKind.wrap_u64]; omega
  have a2 : IntKind.i64.wrap (32 - (n : Int)) = ((32 - n : Nat) : Int) := by rw [IntKind.wrap_i64]; omega
  have a3 : IntKind.u64.wrap ((32 - n : Nat) : Int) = ((32 - n : Nat) : Int) := by rw [IntKind.wrap_u64]; omega
  have a4 : (32 : Int) - (n : Int) = ((32 - n : Nat) : Int) := by omega
  have a5 : min n 32 = n := by omega
  have a6 : min (32 - n) 64 = 32 - n := by omega
  go_wp2
  go_loopw [12] (fun i wr => ∃ (k : Nat) (out : List Int), k ≤ m ∧ i = .int .i64 k ∧
      wr.ownsRow w.heap.size 27 1 (.slice (some ⟨gb, 0, none⟩) m m) m (out.map (Value.int .u32)) ∧ Hid (out.length = m) ∧ Hid (Words out) ∧ Hid (∀ j, j < k → (out.getD j 0).toNat = bval xs / 2 ^ n / 4294967296 ^ j % 4294967296) ∧ Below w.heap.size w wr)
    (fun i _ => m - (intOf i).toNat)
  case atStart =>
    refine ⟨0, List.replicate m 0, Nat.zero_le _, rfl, hown, by simp [Hid], fun x hx => ?_, fun j hj => by omega, hb⟩
    have := (List.mem_replicate.1 hx).2; omega
  case round =>
    clear hown hb
    obtain ⟨k, out, hk, rfl, hown1, hol, how, hval, hb1⟩ := hrel
    have hb3 := hb1.size
    have hgb : w.heap.size ≤ gb := by rw [HGB.out]; exact Nat.le_refl _
    by_cases hkx : k < m
    · obtain ⟨b1, o1, rfl, hbl, -⟩ := H.out.addr (by have := HM.out; omega)
      obtain ⟨b1', o1', he, -, hcx⟩ := (H.out.keep hb1).addr (by have := HM.out; omega)
      obtain ⟨rfl, rfl⟩ : b1 = b1' ∧ o1 = o1' := by simpa using he
      clear he
      have hx := hcx k (by have := HM.out; omega)
      obtain ⟨bx0, bx1⟩ := words_getD HWX.out k
      obtain ⟨x, ex⟩ : ∃ x : Nat, (x : Int) = xs.getD k 0 := ⟨(xs.getD k 0).toNat, by omega⟩
      rw [← ex] at hx bx1
      have EX := Lib.hid ex
      clear ex bx0
      have hol' : out.length = m := hol.out
      have hcell : ∃ y, wr.cell? ⟨gb, k, none⟩ = some (.int .u32 y) := by
        rw [hown1.cellAt k (by omega)]
        exact ⟨out[k], by simp [List.getElem?_eq_getElem (show k < out.length by omega)]⟩
      obtain ⟨y0, hcell⟩ := hcell
      have hfz : wr.frozen? ⟨gb, k, none⟩ = false := hown1.frozenAt k
      have hxi : (x : Int) / 2 ^ n = ((x / 2 ^ n : Nat) : Int) := by rw [Int.natCast_ediv, Int.natCast_pow]; rfl
      obtain ⟨q, hq⟩ : ∃ q, q = x / 2 ^ n := ⟨_, rfl⟩
      rw [← hq] at hxi
      have HQ := Lib.hid hq
      clear hq
      have hqx : q ≤ x := by rw [HQ.out]; exact Nat.div_le_self _ _
      have hst := hown1.stored k (.int .u32 (q : Int))
      have hbn : Below w.heap.size w (wr.setCell ⟨gb, k, none⟩ (.int .u32 (q : Int))) := hb1.grown hst.2 hb3 (fun q e => by cases e; exact hgb)
      have hon : (wr.setCell ⟨gb, k, none⟩ (.int .u32 (q : Int))).ownsRow w.heap.size 27 1 (.slice (some ⟨gb, 0, none⟩) m m) m ((out.set k (q : Int)).map (Value.int .u32)) := by
        rw [List.map_set]; exact hst.1
      have HON := Lib.hid hon
      have HBN := Lib.hid hbn
      have hw3 := Lib.hid (words_set how.out k (q : Int) (by omega) (by omega))
      have hl3 : Hid ((out.set k (q : Int)).length = m) := by show _ = _; rw [List.length_set]; exact hol.out
      clear hst hbn hon hown1
      by_cases hk1 : k + 1 < m
      · have hy := hcx (k + 1) (by have := HM.out; omega)
        clear hcx
        obtain ⟨by0, by1⟩ := words_getD HWX.out (k + 1)
        obtain ⟨y, ey⟩ : ∃ y : Nat, (y : Int) = xs.getD (k + 1) 0 := ⟨(xs.getD (k + 1) 0).toNat, by omega⟩
        rw [← ey] at hy by1
        have EY := Lib.hid ey
        clear ey by0
        obtain ⟨d1, d2⟩ := right_digit_next xs HWX.out n k x y hn (by rw [← HM.out]; exact hk1) EX.out EY.out
        have hor := right_or n x y hn (by omega)
        rw [← HQ.out] at d1 d2 hor
        have hyi := right_wrap n y
        obtain ⟨z, hz⟩ : ∃ z, z = y * 2 ^ (32 - n) % 4294967296 := ⟨_, rfl⟩
        rw [← hz] at hyi hor d1 d2
        have D1 := Lib.hid d1
        have D2 := Lib.hid d2
        have hz4 : z < 4294967296 := by omega
        clear d1 d2 hz
        go_wp2
        have hne : b1 ≠ gb := by omega
        have hy2 : (wr.setCell ⟨gb, k, none⟩ (.int .u32 (q : Int))).cell? ⟨b1, o1 + (k + 1), none⟩ = some (.int .u32 (y : Int)) := by
          rw [World.cell?_setCell_other _ _ _ _ (by intro h; simp only [Addr.mk.injEq] at h; omega)]; exact hy
        have hc2 : (wr.setCell ⟨gb, k, none⟩ (.int .u32 (q : Int))).cell? ⟨gb, k, none⟩ = some (.int .u32 (q : Int)) := World.cell?_setCell_same _ _ _ hcell
        obtain ⟨wz, hwz⟩ : ∃ wz : World, wz = wr.setCell ⟨gb, k, none⟩ (.int .u32 (q : Int)) := ⟨_, rfl⟩
        rw [← hwz] at hy2 hc2 HON HBN ⊢
        have hol3 : (out.set k (q : Int)).length = m := hl3.out
        have hfz2 : wz.frozen? ⟨gb, k, none⟩ = false := HON.out.frozenAt k
        have hbz := HBN.out.size
        have hst := HON.out.stored k (.int .u32 ((q + z : Nat) : Int))
        have hbn : Below w.heap.size w (wz.setCell ⟨gb, k, none⟩ (.int .u32 ((q + z : Nat) : Int))) := HBN.out.grown hst.2 hbz (fun q e => by cases e; exact hgb)
        have hon : (wz.setCell ⟨gb, k, none⟩ (.int .u32 ((q + z : Nat) : Int))).ownsRow w.heap.size 27 1 (.slice (some ⟨gb, 0, none⟩) m m) m (((out.set k (q : Int)).set k ((q + z : Nat) : Int)).map (Value.int .u32)) := by
          rw [List.map_set]; exact hst.1
        have HON2 := Lib.hid hon
        have HBN2 := Lib.hid hbn
        have hqz := D2.out
        have hw4 := Lib.hid (words_set hw3.out k ((q + z : Nat) : Int) (by omega) (by omega))
        have hl4 : Hid (((out.set k (q : Int)).set k ((q + z : Nat) : Int)).length = m) := by show _ = _; rw [List.length_set]; exact hl3.out
        have hT : Hid (∀ j, j < k + 1 → (((out.set k (q : Int)).set k ((q + z : Nat) : Int)).getD j 0).toNat = bval xs / 2 ^ n / 4294967296 ^ j % 4294967296) := by
          refine digits_set _ k m _ (fun j => bval xs / 2 ^ n / 4294967296 ^ j % 4294967296) hl3.out hkx (fun j hj => ?_) ?_
          · rw [getD_set_ne _ _ _ _ (by omega)]; exact hval.out j hj
          · rw [D1.out, Int.toNat_natCast]
        have hor2 : bits BinOp.or IntKind.u32 (q : Int) (IntKind.u64.wrap ((y : Int) * 2 ^ (32 - n)) % 4294967296) = ((q + z : Nat) : Int) := by rw [IntKind.wrap_u64, hyi]; exact hor
        have HOR := Lib.hid hor2
        clear hor2
        have i1 : (0 : Int) ≤ (k : Int) + 1 := by omega
        have i2 : (k : Int) + 1 < (m : Int) := by omega
        have i3 : ((k : Int) + 1).toNat = k + 1 := by omega
        have i4 : IntKind.i64.wrap ((k : Int) + 1) = (k : Int) + 1 := by rw [IntKind.wrap_i64]; omega
        have i5 : (k : Int) < (m : Int) := by omega
        clear hst hbn hon hwz hx hcell hfz hol3 hol' hy hor
        go_region
        rw [HOR.out]
        go_wp2
        go_roundw
        case rel => exact ⟨k + 1, (out.set k (q : Int)).set k ((q + z : Nat) : Int), by omega, by go_num, HON2.out.drew, hl4, hw4, hT, HBN2.out.drew⟩
        case measure => simp [intOf]; omega
      · have hT : Hid (∀ j, j < k + 1 → ((out.set k (q : Int)).getD j 0).toNat = bval xs / 2 ^ n / 4294967296 ^ j % 4294967296) := by
          refine digits_set out k m _ (fun j => bval xs / 2 ^ n / 4294967296 ^ j % 4294967296) hol.out hkx hval.out ?_
          rw [right_digit_last xs HWX.out n k x hn (by have := HM.out; omega) EX.out, Int.toNat_natCast, HQ.out]
        clear hcx
        go_wp2
        go_roundw
        case rel => exact ⟨k + 1, out.set k (q : Int), by omega, by go_num, HON.out, hl3, hw3, hT, HBN.out⟩
        case measure => simp [intOf]; omega
    · obtain rfl : k = m := by omega
      have hfin : bval out = bval xs / 2 ^ n := right_end xs out HWX.out n (hol.out.trans HM.out) (by rw [← HM.out]; exact hval.out)
      have HF := Lib.hid hfin
      obtain ⟨ad', cap', he, hrd⟩ := Gx.Rd.own (k := .u32) (xs := out) hown1 (wf_words how.out)
      have HR := Lib.hid hrd
      have hlo : out.length ≤ 1048576 := by have := hol.out; omega
      clear hrd hown1 hfin hval
      rw [he]
      clear he
      go_wp2_with (first
        | (go_at_call 26; refine (trimmed_any ad' cap' out _ HR.out (by omega)).mono ?_; rintro e w' ⟨rfl, rfl⟩))
      go_ret
      refine ⟨ad', cap', ?_, ?_, hb1⟩
      · rw [← HF.out]; rfl
      · rw [← HF.out]; exact HR.out.trim
end Go.Proofs.YtmieegcnfnoiiaaDoor
namespace Go.Proofs.YtmieegcnfnoiiaaDoor
open Go.RowKit Gx
set_option maxRecDepth 100000

def LongPost (q r : Nat) (w : World) (e : Ending) (w' : World) : Prop :=
  ∃ qo qc ro rc, e = .returned (.tuple #[.slice qo (canon q).length qc, .slice ro (canon r).length rc]) ∧ Rd .u32 w' qo qc (canon q) ∧ Rd .u32 w' ro rc (canon r) ∧ Below w.heap.size w w'

/-- the divisor, what is left, and the quotient, each in its own row -/
structure LM (B0 gu gq m cap k : Nat) (vd : Option Addr) (vc : Nat) (vs us qs : List Int) (w wr : World) : Prop where
  u : wr.ownsRow B0 27 1 (.slice (some ⟨gu, 0, none⟩) m cap) m (us.map (Value.int .u32))
  q : wr.ownsRow B0 27 1 (.slice (some ⟨gq, 0, none⟩) k k) k (qs.map (Value.int .u32))
  v : Rd .u32 wr vd vc vs
  ne : gu ≠ gq
  nu : ∀ a, vd = some a → a.block ≠ gu
  nq : ∀ a, vd = some a → a.block ≠ gq
  bu : B0 ≤ gu
  bq : B0 ≤ gq
  bel : Below B0 w wr
  bw : B0 ≤ w.heap.size
variable {B0 gu gq m cap k : Nat} {vd : Option Addr} {vc : Nat} {vs us qs us' qs' : List Int} {w wr w' : World}
theorem LM.drawn (h : LM B0 gu gq m cap k vd vc vs us qs w wr) (n : Nat) : LM B0 gu gq m cap k vd vc vs us qs w (wr.drewN n) :=
  ⟨h.u, h.q, h.v.keep (Gx.drewN_below _ _ _), h.ne, h.nu, h.nq, h.bu, h.bq, h.bel.trans (Gx.drewN_below _ _ _), h.bw⟩
theorem LM.setU (h : LM B0 gu gq m cap k vd vc vs us qs w wr) (ho : w'.ownsRow B0 27 1 (.slice (some ⟨gu, 0, none⟩) m cap) m (us'.map (Value.int .u32))) (hg : wr.grownBy w' (some gu)) : LM B0 gu gq m cap k vd vc vs us' qs w w' :=
  ⟨ho, h.q.kept hg (.inr (by simp [Value.ownBlock]; exact fun e => h.ne e.symm)), h.v.grown hg (fun a ha _ e => h.nu a ha (Option.some.inj e)), h.ne, h.nu, h.nq, h.bu, h.bq, h.bel.grown hg (Nat.le_trans h.bw h.bel.size) (fun j e => by cases e; exact h.bu), h.bw⟩
theorem LM.setQ (h : LM B0 gu gq m cap k vd vc vs us qs w wr) (j : Nat) (x : Int) : LM B0 gu gq m cap k vd vc vs us (qs.set j x) w (wr.setCell ⟨gq, j, none⟩ (.int .u32 x)) := by
  have hst := h.q.stored j (.int .u32 x)
  exact ⟨h.u.kept hst.2 (.inr (by simp [Value.ownBlock]; exact h.ne)), by rw [List.map_set]; exact hst.1, h.v.grown hst.2 (fun a ha _ e => h.nq a ha (Option.some.inj e)), h.ne, h.nu, h.nq, h.bu, h.bq, h.bel.grown hst.2 (Nat.le_trans h.bw h.bel.size) (fun j e => by cases e; exact h.bq), h.bw⟩
theorem LM.cellU (h : LM B0 gu gq m cap k vd vc vs us qs w wr) (hl : us.length = m) (i : Nat) (hi : i < m) : wr.cell? ⟨gu, i, none⟩ = some (.int .u32 (us.getD i 0)) := by
  rw [h.u.cellAt i (by omega)]
  simp [List.getD, List.getElem?_eq_getElem (show i < us.length by omega)]

theorem own_weaken {w : World} {base base' : Nat} {e : TypeId} {size : Nat} {v : Value} {n : Nat} {xs : List Value} (h : w.ownsRow base e size v n xs) (hb : base' ≤ base) : w.ownsRow base' e size v n xs := by
  refine ⟨h.1, ?_⟩
  rcases h.2 with h2 | ⟨r, cap, cur, hv, hr, rest⟩
  · exact .inl h2
  · exact .inr ⟨r, cap, cur, hv, Nat.le_trans hb hr, rest⟩

set_option maxHeartbeats 8000000 in
set_option maxRecDepth 100000 in
theorem long_any (ad bd : Option Addr) (ca cb a b : Nat) (w : World) (h : Rd .u32 w ad ca (canon a)) (g : Rd .u32 w bd cb (canon b)) (hl : (canon a).length ≤ 1000000) (h2 : 2 ≤ (canon b).length) (hab : b ≤ a) :
    Calls Tryd.prog 56 #[.slice ad (canon a).length ca, .slice bd (canon b).length cb] w (LongPost (a / b) (a % b) w) := by
  have hb0 : b ≠ 0 := by rintro rfl; simp [canon_zero] at h2
  have hlb : (canon b).length ≤ 1000000 := Nat.le_trans (canon_len_le b _ (Nat.lt_of_le_of_lt hab (by have := bval_lt (canon a) (canon_words a); rwa [bval_canon] at this))) hl
  obtain ⟨-, x, hx, hx2, -⟩ := blen_last b hb0
  obtain ⟨x32, x1, hd⟩ := div_start b hb0 h2 x hx
  obtain ⟨N, hN⟩ : ∃ N, N = 32 - Lib.bitLen x := ⟨_, rfl⟩
  have hLZ : (32 : Int) - (Lib.bitLen x : Int) = (N : Int) := by omega
  have hN31 : N ≤ 31 := by omega
  rw [← hN] at hd
  clear hN x32 x1
  have hAB : b * 2 ^ N ≤ a * 2 ^ N := Nat.mul_le_mul_right _ hab
  obtain ⟨hle, hinv⟩ := long_start hd hAB
  have hla : (canon (a * 2 ^ N)).length ≤ 1000001 := by
    refine Nat.le_trans (canon_len_le _ ((canon a).length + 1) ?_) (by omega)
    have h1 := bval_lt (canon a) (canon_words a)
    rw [bval_canon] at h1
    rw [Nat.pow_succ]
    have h3 : 2 ^ N ≤ 4294967296 := Nat.le_trans (Nat.pow_le_pow_right (by decide) hN31) (by decide)
    exact Nat.lt_of_lt_of_le (Nat.mul_lt_mul_of_pos_right h1 (Nat.two_pow_pos N)) (Nat.mul_le_mul_left _ h3)
  have hq1 : a * 2 ^ N / (b * 2 ^ N) = a / b := Nat.mul_div_mul_right _ _ (Nat.two_pow_pos N)
  have hq2 : a * 2 ^ N % (b * 2 ^ N) = (a % b) * 2 ^ N := Nat.mul_mod_mul_right _ _ _
  have hr2 : (a % b) * 2 ^ N / 2 ^ N = a % b := Nat.mul_div_cancel _ (Nat.two_pow_pos N)
  have HLB := fun w0 (hb : Below w.heap.size w w0) => bigLeft_own bd cb b N w0 (g.keep hb) (by omega) hb0 hN31
  have HLA := fun w0 (hb : Below w.heap.size w w0) => bigLeft_own ad ca a N w0 (h.keep hb) (by omega) (by omega) hN31
  obtain ⟨bb, bo, rfl, hbl, hcb⟩ := g.addr (by omega)
  have hcx := hcb ((canon b).length - 1) (by omega)
  rw [← hx] at hcx
  obtain ⟨A, hA⟩ : ∃ A, A = a * 2 ^ N := ⟨_, rfl⟩
  obtain ⟨B, hB⟩ : ∃ A, A = b * 2 ^ N := ⟨_, rfl⟩
  rw [← hA, ← hB] at hinv hq1 hq2
  rw [← hB] at HLB hd
  rw [← hA] at HLA hla hle
  unfold OwnPost at HLA HLB
  obtain ⟨vs, hvs⟩ : ∃ v, v = canon B := ⟨_, rfl⟩
  rw [← hvs] at hd HLB
  rw [hd.lv] at HLB
  obtain ⟨na, hna⟩ : ∃ n, n = (canon a).length := ⟨_, rfl⟩
  obtain ⟨nv, hnv⟩ : ∃ n, n = (canon b).length := ⟨_, rfl⟩
  obtain ⟨la, hla2⟩ : ∃ n, n = (canon A).length := ⟨_, rfl⟩
  rw [← hna] at HLA hl ⊢
  rw [← hnv] at HLB hlb h2 hd hinv hle hcx ⊢
  rw [← hla2] at hinv hla hle HLA
  have HI := Lib.hid hinv
  have HD := Lib.hid hd
  have HQ1 := Lib.hid hq1
  have HQ2 := Lib.hid hq2
  have HR2 := Lib.hid hr2
  have HLA2 := Lib.hid hla2
  replace HLA := Lib.hid HLA
  replace HLB := Lib.hid HLB
  have hi1 : (0 : Int) ≤ (nv : Int) - 1 := by omega
  have hi2 : (nv : Int) - 1 < (nv : Int) := by omega
  have hi3 : ((nv : Int) - 1).toNat = nv - 1 := by omega
  have hxx : (x : Int).toNat = x := Int.toNat_natCast x
  have HXX := Lib.hid hxx
  have HLZ := Lib.hid hLZ
  clear h g hb0 hab hinv hd hq1 hq2 hr2 hA hB hcb hx hAB hna hnv hla2 hxx hLZ hvs
  go_enter Tryd.func56, Tryd.ntmps56
  go_wp2_with fail
  refine (Tryd.bits_LeadingZeros32 (x : Int) w (by omega) (by omega)).mono ?_
  rintro e w' ⟨rfl, rfl⟩
  obtain ⟨w, rfl⟩ : ∃ z : World, z = w' := ⟨_, rfl⟩
  rw [HXX.out, HLZ.out]
  clear hi1 hi2 hi3 hcx
  go_wp2_with fail
  refine (HLB.out w (Below.refl _ _)).mono ?_
  rintro e w1 ⟨vo, vc, rfl, hov, hb⟩
  obtain ⟨vd, vc', hve, hvr, hvb⟩ := Gx.Rd.own' (k := .u32) hov (wf_words HD.out.wv)
  obtain ⟨gv, cv, hve2, hgv1, -, hgv2, -⟩ := Gx.own_cell hov (by omega)
  have hvd : vo = vd ∧ vc = vc' := by simp only [Value.slice.injEq] at hve; exact ⟨hve.1, hve.2.2⟩
  obtain ⟨rfl, rfl⟩ := hvd
  have hvo : vo = some ⟨gv, 0, none⟩ := by simp only [Value.slice.injEq] at hve2; exact hve2.1
  have HVO := Lib.hid hvo
  have HV1 := Lib.hid hvr
  have B1 := Lib.hid hb
  have HS1 := Lib.hid (show w.heap.size ≤ w1.heap.size from hb.size)
  clear hov hve hve2 hvb hb hvr hvo HLB
  go_wp2_with fail
  refine (HLA.out w1 B1.out).mono ?_
  rintro e w2 ⟨uo, uc, rfl, hou, hb⟩
  have HV2 := Lib.hid (HV1.out.keep hb)
  have B2 := Lib.hid (B1.out.trans (hb.mono B1.out.size))
  have HS2 := Lib.hid (show w1.heap.size ≤ w2.heap.size from hb.size)
  clear hb B1 HV1 HLA
  go_wp2_with (first
    | (at_builtin; refine Gx.wpList_push w2 rfl _ _ 29 rfl w1.heap.size 27 (.int .u32 0) 1 4 Tryd.underlying29 Tryd.info_u32 rfl (by decide) _ _ _ [.int .u32 0] _ rfl rfl (by exact hou) rfl rfl ?a2 ?a3 ?a4 ?a5 ?_))
  case a2 => intro u hu; simp at hu; subst hu; rfl
  case a3 => omega
  case a4 => omega
  case a5 => exact HS2.out
  intro v' w3 hown3 hg3 hmv hne3
  have hown4 : w3.ownsRow w1.heap.size 27 1 v' (la + 1) ((canon A ++ [0]).map (Value.int .u32)) := by rw [List.map_append]; exact hown3
  obtain ⟨gu, capu, rfl, hgu1, hgu2, hgu3, -⟩ := Gx.own_cell hown4 (by omega)
  have hgs := hou.lt
  have B3 := Lib.hid (B2.out.grown hg3 B2.out.size (fun j e => Nat.le_trans HS1.out (hgs j e).1))
  have HV3 := Lib.hid (HV2.out.grown hg3 (fun a ha _ e => by
    rw [HVO.out] at ha
    obtain rfl := Option.some.inj ha
    have := (hgs _ e.symm).1
    simp only at this
    omega))
  have HU3 := Lib.hid (own_weaken hown4 HS1.out)
  have HS3 := Lib.hid (show w2.heap.size ≤ w3.heap.size from hg3.size)
  clear hou hown3 hown4 hg3 hmv hne3 hgs B2 HV2
  obtain ⟨i0, hi, hz0, hz1, hz2⟩ := info_parts Tryd.info_u32
  have HI0 := Lib.hid hi
  have HZ0 := Lib.hid hz0
  have HZ1 := Lib.hid hz1
  clear hi hz0 hz1
  obtain ⟨k, hk⟩ : ∃ k : Nat, k = la + 1 - nv := ⟨_, rfl⟩
  have hk1 : k + nv ≤ la + 1 := by omega
  have hk2 : la + 1 ≤ k + nv := by omega
  rw [← hk] at HI
  clear hk
  go_wp2_with (first
    | (at_make; refine wpList_make_full _ rfl _ _ 29 rfl w.heap.size 27 i0 (.int .u32 0) 1 Tryd.underlying29 HI0.out HZ0.out HZ1.out .i64 .i64 _ _ k rfl rfl (by omega) (by omega) (by rw [hz2]; omega) (by unfold maxLen; omega) (Nat.le_trans B3.out.size (Nat.le_refl _)) ?_))
  intro w4 hownq hgq
  rw [madeCells_one] at hownq
  obtain ⟨gq, hgqe⟩ : ∃ gq, gq = w3.heap.size := ⟨_, rfl⟩
  rw [← hgqe] at hownq hgu3
  have hle4 : w3.heap.size ≤ w4.heap.size := hgq.size
  have hlm0 : LM w.heap.size gu gq (la + 1) capu k vo vc vs (canon A ++ [0]) (List.replicate k 0) w w4 :=
    ⟨HU3.out.kept hgq (.inr (by simp [Value.ownBlock])), hownq, HV3.out.grown hgq (fun a _ _ e => by cases e), by omega, (fun a ha e => by rw [HVO.out] at ha; obtain rfl := Option.some.inj ha; simp only at e; omega),
      (fun a ha e => by have := HS2.out; have := HS3.out; rw [HVO.out] at ha; obtain rfl := Option.some.inj ha; simp only at e; omega), by omega, by have := B3.out.size; omega, B3.out.grown hgq B3.out.size (fun j e => by cases e), Nat.le_refl _⟩
  have HM := Lib.hid hlm0
  have HGQ := Lib.hid hgqe
  clear hownq hgq hle4 hlm0 hgqe HU3 HV3 B3 HS1 HS2 HS3 HI0 HZ0 HZ1 hz2
  rw [← HGQ.out]
  clear HGQ
  obtain ⟨vb, vof, hva, -, hvc⟩ := HM.out.v.addr (by rw [HD.out.lv]; omega)
  have t1 := hvc (nv - 1) (by rw [HD.out.lv]; omega)
  have t2 := hvc (nv - 2) (by rw [HD.out.lv]; omega)
  clear hvc
  obtain ⟨bt1, bt2⟩ := words_getD HD.out.wv (nv - 1)
  obtain ⟨bn1, bn2⟩ := words_getD HD.out.wv (nv - 2)
  obtain ⟨top, htop⟩ : ∃ t : Nat, (t : Int) = vs.getD (nv - 1) 0 := ⟨(vs.getD (nv - 1) 0).toNat, by omega⟩
  obtain ⟨next, hnext⟩ : ∃ t : Nat, (t : Int) = vs.getD (nv - 2) 0 := ⟨(vs.getD (nv - 2) 0).toNat, by omega⟩
  rw [← htop] at t1 bt2
  rw [← hnext] at t2 bn2
  have HTOP := Lib.hid htop
  have HNEXT := Lib.hid hnext
  have HVA := Lib.hid hva
  clear htop hnext bt1 bn1
  subst hva
  have j1 : (0 : Int) ≤ (nv : Int) - 1 := by omega
  have j2 : (nv : Int) - 1 < (nv : Int) := by omega
  have j3 : ((nv : Int) - 1).toNat = nv - 1 := by omega
  have j4 : (0 : Int) ≤ (nv : Int) - 2 := by omega
  have j5 : (nv : Int) - 2 < (nv : Int) := by omega
  have j6 : ((nv : Int) - 2).toNat = nv - 2 := by omega
  go_wp2_with fail
  go_quiet (fail)
  go_wp2_with fail
  have HM' := Lib.hid (HM.out.drawn nq)
  clear HM t1 t2 j1 j2 j3 j4 j5 j6
  go_loopw [12] (fun jv wr => ∃ (z : Int) (j : Nat) (us qs : List Int), jv = .int .i64 z ∧ z + 1 = j ∧ j ≤ k ∧ Hid (LM w.heap.size gu gq (la + 1) capu k (some ⟨vb, vof, none⟩) vc vs us qs w wr) ∧ Hid (LInv A B nv la k us qs j))
    (fun jv _ => (intOf jv + 1).toNat)
  case atStart => exact ⟨_, k, _, _, rfl, by omega, Nat.le_refl _, HM', HI⟩
  case round =>
    clear HM' HI
    obtain ⟨z, j, us, qs, rfl, hzj, hjk, HM, HI⟩ := hrel
    by_cases hj0 : j = 0
    · subst hj0
      obtain rfl : z = -1 := by omega
      obtain ⟨e1, e2⟩ := long_end HI.out
      obtain ⟨qd, qc, hqe, hqr, -⟩ := Gx.Rd.own' (k := .u32) HM.out.q (wf_words HI.out.wq)
      obtain ⟨ud, uc', hue, hur, -⟩ := Gx.Rd.own' (k := .u32) HM.out.u (wf_words HI.out.wu)
      rw [hqe, hue]
      have HQ := Lib.hid hqr
      have HU := Lib.hid hur
      have E1 := Lib.hid (e1.trans HQ1.out)
      have E2 := Lib.hid (e2.trans HQ2.out)
      have HBEL := Lib.hid HM.out.bel
      have L1 : Hid (qs.length ≤ 1048576) := by show _ ≤ _; rw [HI.out.lq]; omega
      have L2 : Hid (us.length ≤ 1048576) := by show _ ≤ _; rw [HI.out.lu]; omega
      clear e1 e2 hqr hur hqe hue HM HI
      go_wp2_with fail
      refine (trimmed_any qd qc qs _ HQ.out (by have := L1.out; omega)).mono ?_
      rintro e w' ⟨rfl, rfl⟩
      rw [E1.out]
      go_wp2_with fail
      refine (trimmed_any ud uc' us _ HU.out (by have := L2.out; omega)).mono ?_
      rintro e w' ⟨rfl, rfl⟩
      go_wp2_with fail
      refine (bigRight_any ud uc' (canon (bval us)) N wr HU.out.trim (by have := L2.out; have := canon_len_le (bval us) us.length (bval_lt us (words_of_rd HU.out)); omega) hN31).mono ?_
      rintro e w6 ⟨ro, rc, rfl, hr, hb⟩
      have e3 : bval (canon (bval us)) / 2 ^ N = a % b := by rw [bval_canon, E2.out, HR2.out]
      rw [e3] at hr ⊢
      have hq := HQ.out.trim
      rw [E1.out] at hq
      have HR := Lib.hid hr
      have HQ' := Lib.hid (hq.keep hb)
      have HB' := Lib.hid (HBEL.out.trans (hb.mono HBEL.out.size))
      clear hr hb hq e3
      go_wp2
      go_ret2
      exact ⟨_, _, _, _, rfl, HQ'.out, HR.out, HB'.out⟩
    · obtain ⟨i, rfl⟩ : ∃ i : Nat, z = i := ⟨(j - 1 : Nat), by omega⟩
      obtain rfl : j = i + 1 := by omega
      have hlu := HI.out.lu
      have hjn : i + nv ≤ la := by omega
      have HG := Lib.hid (round_guess HD.out HI.out hjn)
      have c1 := HM.out.cellU hlu (i + nv) (by omega)
      have c2 := HM.out.cellU hlu (i + nv - 1) (by omega)
      have c3 := HM.out.cellU hlu (i + nv - 2) (by omega)
      have w1 := words_getD HI.out.wu (i + nv)
      have w2 := words_getD HI.out.wu (i + nv - 1)
      have w3 := words_getD HI.out.wu (i + nv - 2)
      obtain ⟨uT, huT⟩ : ∃ t : Nat, (t : Int) = us.getD (i + nv) 0 := ⟨(us.getD (i + nv) 0).toNat, by omega⟩
      obtain ⟨u1, hu1⟩ : ∃ t : Nat, (t : Int) = us.getD (i + nv - 1) 0 := ⟨(us.getD (i + nv - 1) 0).toNat, by omega⟩
      obtain ⟨u2, hu2⟩ : ∃ t : Nat, (t : Int) = us.getD (i + nv - 2) 0 := ⟨(us.getD (i + nv - 2) 0).toNat, by omega⟩
      rw [← huT] at c1 w1 HG
      rw [← hu1] at c2 w2 HG
      rw [← hu2] at c3 w3 HG
      rw [← HTOP.out, ← HNEXT.out] at HG
      simp only [Int.toNat_natCast] at HG
      have wT := w1.2
      have w1' := w2.2
      have w2' := w3.2
      have HU2 := Lib.hid hu2
      clear w1 w2 w3 huT hu1 hu2 hlu hzj hj0
      obtain ⟨W, hW⟩ : ∃ W, W = win us i (nv + 1) := ⟨_, rfl⟩
      rw [← hW] at HG
      have HWE := Lib.hid hW
      clear hW
      obtain ⟨two, htwo⟩ : ∃ t, t = uT * 4294967296 + u1 := ⟨_, rfl⟩
      have hor := or_word uT u1 (by omega) wT (by omega) w1'
      have htwi : (uT : Int) * 4294967296 + (u1 : Int) = (two : Int) := by omega
      rw [htwi] at hor
      rw [← htwo] at HG
      have htw2 : two ≤ 18446744073709551615 := by omega
      clear htwo htwi
      have a1 : IntKind.i64.wrap ((i : Int) + (nv : Int)) = (i : Int) + (nv : Int) := IntWalk.i64_in _ (by omega)
      have a2 : IntKind.i64.wrap ((i : Int) + (nv : Int) - 1) = (i : Int) + (nv : Int) - 1 := IntWalk.i64_in _ (by omega)
      have a3 : ((i : Int) + (nv : Int)).toNat = i + nv := by omega
      have a4 : ((i : Int) + (nv : Int) - 1).toNat = i + nv - 1 := by omega
      have a5 : (0 : Int) ≤ (i : Int) + (nv : Int) := by omega
      have a6 : (0 : Int) ≤ (i : Int) + (nv : Int) - 1 := by omega
      have a7 : (i : Int) + (nv : Int) < (la : Int) + 1 := by omega
      have a8 : (i : Int) + (nv : Int) - 1 < (la : Int) + 1 := by omega
      go_upto_region 10 with (go_quiet (fail))
      have HM0 := Lib.hid (HM.out.drawn nq)
      obtain ⟨wy, hwy⟩ : ∃ wy, wy = wr.drewN nq := ⟨_, rfl⟩
      rw [← hwy] at HM0 ⊢
      clear a1 a2 a3 a4 a5 a6 a7 a8 hor c1 c2 c3 hwy HM
      obtain ⟨G0, hG0⟩ : ∃ t, t = two / top := ⟨_, rfl⟩
      obtain ⟨R0, hR0⟩ : ∃ t, t = two % top := ⟨_, rfl⟩
      have ht1 := HG.out.t1
      have hGR : G0 * top + R0 = two := by rw [hG0, hR0, Nat.mul_comm]; exact Nat.div_add_mod two top
      have hG1 : W / B ≤ G0 := by rw [hG0]; exact HG.out.first
      have hR1 : R0 < top := by rw [hR0]; exact Nat.mod_lt _ (by omega)
      have hG2 := HG.out.gmax hGR
      have d1 : (two : Int).tdiv (top : Int) = (G0 : Int) := by rw [Int.tdiv_eq_ediv_of_nonneg (by omega), hG0, Int.natCast_ediv]
      have d2 : (two : Int).tmod (top : Int) = (R0 : Int) := by rw [Int.tmod_eq_emod_of_nonneg (by omega), hR0, Int.natCast_emod]
      have d3 : IntKind.u64.wrap (G0 : Int) = (G0 : Int) := by rw [IntKind.wrap_u64]; omega
      have d4 : ((top : Int) != 0) = true := by simp; omega
      have d5 : ((top : Int) == 0) = false := by simp; omega
      have HGR := Lib.hid hGR
      have HG1 := Lib.hid hG1
      clear hG0 hR0 hGR hG1
      go_quiet (fail)
      have HM1 := Lib.hid (HM0.out.drawn nq)
      obtain ⟨wz, hwz⟩ : ∃ wz, wz = wy.drewN nq := ⟨_, rfl⟩
      rw [← hwz] at HM1 ⊢
      have c3 := HM1.out.cellU HI.out.lu (i + nv - 2) (by omega)
      rw [← HU2.out] at c3
      clear d1 d2 d3 d4 d5 HM0 hwz
      go_upto_block 2 with fail
      go_cut [14] (fun g wx => ∃ G : Nat, g = .int .u64 G ∧ G < 4294967296 ∧ Hid (W / B ≤ G ∧ G ≤ W / B + 1) ∧ wx = wz)
      case first =>
        have b1 : ((i : Int) + (nv : Int) - 2).toNat = i + nv - 2 := by omega
        have b2 : (0 : Int) ≤ (i : Int) + (nv : Int) - 2 := by omega
        have b3 : (i : Int) + (nv : Int) - 2 < (la : Int) + 1 := by omega
        go_wp2_with fail
        go_loop [14, 15] (fun g r => ∃ G R : Nat, g = .int .u64 G ∧ r = .int .u64 R ∧ G ≤ 4294967298 ∧ R < 4294967296 ∧ Hid (G * top + R = two) ∧ Hid (W / B ≤ G)) (fun g _ => (intOf g).toNat)
        case atStart => exact ⟨G0, R0, rfl, rfl, hG2, by omega, HGR, HG1⟩
        case round =>
          obtain ⟨G, R, rfl, rfl, hG, hR, hGR, hGW⟩ := hrel
          have hor := or_word R u2 (by omega) (by omega) (by omega) w2'
          obtain ⟨y, hy⟩ : ∃ y : Nat, y = R * 4294967296 + u2 := ⟨_, rfl⟩
          have hyi : (R : Int) * 4294967296 + (u2 : Int) = (y : Int) := by omega
          rw [hyi] at hor
          obtain ⟨z, hz⟩ : ∃ z : Nat, z = G * next := ⟨_, rfl⟩
          have hmul : (G : Int) * (next : Int) = (z : Int) := by rw [hz, Int.natCast_mul]
          by_cases hex : G < 4294967296 ∧ z ≤ y
          · obtain ⟨hx1, hx2⟩ := hex
            have hzb : z ≤ 18446744065119617025 := by
              have := Nat.mul_le_mul (show G ≤ 4294967295 by omega) (show next ≤ 4294967295 by omega)
              omega
            have hmost := HG.out.most hGR.out hx1 (by rw [← hz, ← hy]; exact hx2)
            have HMOST := Lib.hid hmost
            have e1 : (G : Int) / 4294967296 = 0 := by omega
            have e2 : decide ((y : Int) < (z : Int)) = false := decide_eq_false (by omega)
            have e3 : decide (y < z) = false := decide_eq_false (by omega)
            clear hy hz hyi hmost
            go_wp2_with fail
            go_meet
            exact ⟨G, rfl, hx1, ⟨hGW.out, HMOST.out⟩, rfl⟩
          · have hcond : 4294967296 ≤ G ∨ R * 4294967296 + u2 < G * next := by rw [← hy, ← hz]; omega
            have hless := HG.out.less hGR.out hcond
            have hG1 : 1 ≤ G := Nat.lt_of_le_of_lt (Nat.zero_le _) hless
            have hGR2 : (G - 1) * top + (R + top) = two := by
              have := hGR.out
              obtain ⟨q, rfl⟩ : ∃ q, G = q + 1 := ⟨G - 1, by omega⟩
              rw [Nat.add_mul, Nat.one_mul] at this
              rw [Nat.add_sub_cancel]; omega
            have HGR2 := Lib.hid hGR2
            have HW2 := Lib.hid (show W / B ≤ G - 1 from Nat.le_sub_one_of_lt hless)
            have hcz : (4294967296 ≤ G ∧ decide ((0 : Int) < (G : Int) / 4294967296) = true) ∨ ((G : Int) / 4294967296 = 0 ∧ decide ((y : Int) < (z : Int)) = true ∧ decide (y < z) = true ∧ z ≤ 18446744065119617025) := by
              by_cases h : 4294967296 ≤ G
              · exact .inl ⟨h, decide_eq_true (by omega)⟩
              · refine .inr ⟨by omega, decide_eq_true (by omega), decide_eq_true (by omega), ?_⟩
                have := Nat.mul_le_mul (show G ≤ 4294967295 by omega) (show next ≤ 4294967295 by omega)
                omega
            clear hy hz hyi hcond hless hGR2 hex hGR hGW
            have hR2 : R + top ≤ 8589934592 := by omega
            by_cases hbr : 4294967296 ≤ R + top
            · have hm2 := HG.out.most2 HGR2.out hbr
              have hsm := HG.out.small HGR2.out hbr
              have HM2 := Lib.hid hm2
              have HSM := Lib.hid hsm
              have f1 : decide ((0 : Int) < ((R : Int) + (top : Int)) / 4294967296) = true := decide_eq_true (by omega)
              clear hm2 hsm hbr
              rcases hcz with ⟨h1, e1⟩ | ⟨e1, e2, e3, e4⟩
              all_goals
                go_wp2_with fail
                go_meet
                exact ⟨G - 1, by congr 1; omega, HSM.out, ⟨HW2.out, HM2.out⟩, rfl⟩
            · have f1 : decide ((0 : Int) < ((R : Int) + (top : Int)) / 4294967296) = false := decide_eq_false (by omega)
              have hbr' : R + top < 4294967296 := by omega
              clear hbr
              rcases hcz with ⟨h1, e1⟩ | ⟨e1, e2, e3, e4⟩
              all_goals
                go_wp2_with fail
                go_round
                case rel => exact ⟨G - 1, R + top, by congr 1; omega, by congr 1, by omega, hbr', HGR2, HW2⟩
                case measure => simp [intOf]; omega
      case rest =>
        obtain ⟨G, rfl, hG, hGW, rfl⟩ := hcut
        have b1 : ((i : Int) + (nv : Int) + 1).toNat = i + nv + 1 := by omega
        have b2 : (0 : Int) ≤ (i : Int) + (nv : Int) + 1 := by omega
        have b3 : (i : Int) + (nv : Int) + 1 ≤ (capu : Int) := by omega
        have hne : ∀ a, (some ⟨vb, vof, none⟩ : Option Addr) = some a → 0 < vs.length → some a.block ≠ some gu := fun a ha _ e => HM1.out.nu a ha (Option.some.inj e)
        have hBp := HG.out.bpos
        have TX := fun (cw : Nat) => takes_any w.heap.size gu (la + 1) capu cw us vs G i (some ⟨vb, vof, none⟩) vc wc HM1.out.u HI.out.wu HM1.out.v hne hG (by rw [HD.out.lv]; omega) (by omega)
        rw [HD.out.lv] at TX
        replace TX := Lib.hid TX
        have HNE := Lib.hid hne
        have HBP := Lib.hid hBp
        have hsl : i + nv + 1 - i = nv + 1 := by omega
        have HSL := Lib.hid hsl
        have hG' : (G : Int) ≤ 4294967295 := by omega
        clear c3 hne hBp hsl
        go_wp2_with fail
        rw [HSL.out]
        refine (TX.out _).mono ?_
        rintro e w6 ⟨out, c, hc1, rfl, hown, how, hso, hwin, hgr⟩
        rw [HD.out.val, ← HWE.out] at hwin
        have HM2 := Lib.hid (HM1.out.setU hown hgr)
        have HOW := Lib.hid how
        have HSO := Lib.hid hso
        clear hown how hso hgr TX HM1 b1 b2 b3
        by_cases hcz : c = 0
        · subst hcz
          have hw1 : win out i (nv + 1) + G * B = win us i (nv + 1) := by rw [← HWE.out]; rw [Nat.mul_zero, Nat.add_zero] at hwin; exact hwin
          have hlt := quot_ok HBP.out hw1 (by rw [← HWE.out]; exact hGW.out.1)
          have HI2 := Lib.hid (round_done HD.out HI.out hjn (by omega) HSO.out HOW.out hw1 hlt hG)
          have HM3 := Lib.hid (HM2.out.setQ i (G : Int))
          have hlq := HI.out.lq
          have hcq : ∃ y, w6.cell? ⟨gq, i, none⟩ = some (.int .u32 y) := by
            rw [HM2.out.q.cellAt i (by omega)]
            exact ⟨qs[i], by simp [List.getElem?_eq_getElem (show i < qs.length by omega)]⟩
          obtain ⟨y0, hcq⟩ := hcq
          have hfq : w6.frozen? ⟨gq, i, none⟩ = false := HM2.out.q.frozenAt i
          clear hw1 hlt hwin HI HM2 hlq HOW HSO hGW
          go_wp2
          go_roundw
          case rel => first | exact ⟨_, i, _, _, rfl, by omega, by omega, HM3, HI2⟩ | ((repeat apply Exists.intro); exact ⟨⟨_, i, _, _, rfl, by omega, by omega, HM3, HI2⟩, rfl⟩)
          case measure => simp [intOf]
        · obtain rfl : c = 1 := by omega
          have GX := fun (cw : Nat) => gives_any w.heap.size gu (la + 1) capu cw out vs i (some ⟨vb, vof, none⟩) vc w6 HM2.out.u HOW.out HM2.out.v HNE.out (by rw [HD.out.lv]; omega) (by omega)
          rw [HD.out.lv] at GX
          replace GX := Lib.hid GX
          have HWIN := Lib.hid hwin
          have b1 : ((i : Int) + (nv : Int) + 1).toNat = i + nv + 1 := by omega
          have b2 : (0 : Int) ≤ (i : Int) + (nv : Int) + 1 := by omega
          have b3 : (i : Int) + (nv : Int) + 1 ≤ (capu : Int) := by omega
          have hG1 : 1 ≤ G := by
            rcases Nat.eq_zero_or_pos G with h | h
            · exfalso
              subst h
              have h1 := win_lt out HOW.out i (nv + 1) (by have := HSO.out.len; have := HI.out.lu; omega)
              simp at hwin
              omega
            · exact h
          clear hwin hcz
          go_wp2_with fail
          rw [HSL.out]
          refine (GX.out _).mono ?_
          rintro e w7 ⟨out2, c2, hc2, rfl, hown, how, hso, hwin2, hgr⟩
          rw [HD.out.val] at hwin2
          have HM3 := HM2.out.setU hown hgr
          have hl1 := HSO.out.len
          have hl2 := hso.len
          have hl3 := HI.out.lu
          obtain ⟨q1, q2, q3⟩ := quot_back HBP.out (win_lt out HOW.out i (nv + 1) (by omega)) (win_lt out2 how i (nv + 1) (by omega)) (by rw [HWIN.out, Nat.mul_one]) hwin2 hc2 hGW.out.2
          rw [HWE.out] at q2
          have HI2 := Lib.hid (round_done HD.out HI.out hjn (by omega) (HSO.out.trans hso) how q2 q3 (by omega : G - 1 < 4294967296))
          have HM4 := Lib.hid (HM3.setQ i ((G - 1 : Nat) : Int))
          have hlq := HI.out.lq
          have hcq : ∃ y, w7.cell? ⟨gq, i, none⟩ = some (.int .u32 y) := by
            rw [HM3.q.cellAt i (by omega)]
            exact ⟨qs[i], by simp [List.getElem?_eq_getElem (show i < qs.length by omega)]⟩
          obtain ⟨y0, hcq⟩ := hcq
          have hfq : w7.frozen? ⟨gq, i, none⟩ = false := HM3.q.frozenAt i
          have hGi : ((G - 1 : Nat) : Int) = (G : Int) - 1 := by omega
          rw [hGi] at HM4 HI2
          clear hwin2 hown how hso hgr hl1 hl2 hl3 q1 q2 q3 HI HM2 HM3 hlq HOW HSO hGW hGi HWIN GX b1 b2 b3
          go_wp2
          go_roundw
          case rel => first | exact ⟨_, i, _, _, rfl, by omega, by omega, HM4, HI2⟩ | ((repeat apply Exists.intro); exact ⟨⟨_, i, _, _, rfl, by omega, by omega, HM4, HI2⟩, rfl⟩)
          case measure => simp [intOf]
end Go.Proofs.YtmieegcnfnoiiaaDoor
