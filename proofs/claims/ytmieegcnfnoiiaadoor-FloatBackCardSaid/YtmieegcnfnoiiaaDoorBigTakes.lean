/-
  The contracts of big.takes and big.gives: so often v off, or on, a window of a number. Conditions: the window lies in a row of the caller's own; at most 2^20 words.
-/
import Derived.Test.YtmieegcnfnoiiaaDoorLongLaw
namespace Go.Proofs.YtmieegcnfnoiiaaDoor
open Go.RowKit Gx
set_option maxRecDepth 100000

theorem kzb (c : Int) (h0 : 0 ≤ c) (h1 : c ≤ 1) : (c = 0 ∧ decide (c = 1) = false ∧ (c == 1) = false) ∨ (c = 1 ∧ decide (c = 1) = true ∧ (c == 1) = true) := by
  by_cases h : c = 1
  · subst h; exact .inr ⟨rfl, rfl, rfl⟩
  · have : c = 0 := by omega
    subst this; exact .inl ⟨rfl, rfl, rfl⟩

/-- a window has become less by g times v; c: it was too often -/
def TakesPost (B0 gu m cap : Nat) (us vs : List Int) (g j k : Nat) (w : World) (e : Ending) (w' : World) : Prop :=
  ∃ (out : List Int) (c : Nat), c ≤ 1 ∧ e = .returned (.bool (c == 1)) ∧ w'.ownsRow B0 27 1 (.slice (some ⟨gu, 0, none⟩) m cap) m (out.map (Value.int .u32)) ∧ Words out ∧ SameOut us out j k ∧
    win out j k + g * bval vs = win us j k + 4294967296 ^ k * c ∧ w.grownBy w' (some gu)

set_option maxHeartbeats 1000000 in
theorem takes_any (B0 gu m cap cw : Nat) (us vs : List Int) (g j : Nat) (vd : Option Addr) (vc : Nat) (w : World) (hown : w.ownsRow B0 27 1 (.slice (some ⟨gu, 0, none⟩) m cap) m (us.map (Value.int .u32))) (hw : Words us) (hv : Rd .u32 w vd vc vs)
    (hne : ∀ a, vd = some a → 0 < vs.length → some a.block ≠ some gu) (hg : g < 4294967296) (hj : j + (vs.length + 1) ≤ m) (hm : m ≤ 2097152) :
    Calls Tryd.prog 73 #[.slice (some ⟨gu, j, none⟩) (vs.length + 1 : Nat) cw, .slice vd vs.length vc, .int .u64 g] w (TakesPost B0 gu m cap us vs g j (vs.length + 1) w) := by
  have hwv := words_of_rd hv
  have hlu : us.length = m := by have := hown.1; simpa using this
  have HV := Lib.hid hv
  have HNE := Lib.hid hne
  have HW := Lib.hid hw
  have HWV := Lib.hid hwv
  have HLU := Lib.hid hlu
  clear hv hne hw hwv hlu
  obtain ⟨nv, hnv⟩ : ∃ nv, nv = vs.length := ⟨_, rfl⟩
  rw [← hnv] at hj ⊢
  have HNV := Lib.hid hnv
  clear hnv
  have hg0 : (0 : Int) ≤ (g : Int) := by omega
  have hg1 : (g : Int) ≤ 4294967295 := by omega
  go_enter Tryd.func73, Tryd.ntmps73
  go_wp2
  go_loopw [7, 8, 12] (fun c b i wr => ∃ (k : Nat) (cr bo : Int) (out : List Int), k ≤ nv + 1 ∧ i = .int .i64 k ∧ c = .int .u64 cr ∧ 0 ≤ cr ∧ cr ≤ 4294967295 ∧ b = .int .u32 bo ∧ 0 ≤ bo ∧ bo ≤ 1 ∧
      wr.ownsRow B0 27 1 (.slice (some ⟨gu, 0, none⟩) m cap) m (out.map (Value.int .u32)) ∧ Hid (Words out) ∧ Hid (SameOut us out j (nv + 1)) ∧
      Hid (bval out + 4294967296 ^ j * (g * bval (vs.take k)) = bval us + 4294967296 ^ (j + k) * (cr.toNat + bo.toNat)) ∧ Hid (k = nv + 1 → cr = 0) ∧ Hid (w.grownBy wr (some gu)))
    (fun _ _ i _ => nv + 1 - (intOf i).toNat)
  case atStart => exact ⟨0, 0, 0, us, Nat.zero_le _, rfl, rfl, by omega, by omega, rfl, by omega, by omega, hown, HW.out, SameOut.refl _ _ _, by show _ = _; simp [bval], (fun h => by omega), World.grownBy.refl _ _⟩
  case round =>
    clear hown
    obtain ⟨k, cr, bo, out, hk, rfl, rfl, hc0, hc1, rfl, hb0, hb1, hown, HOW, HSO, hval, hlast, HG⟩ := hrel
    by_cases hlt : k < nv + 1
    · have hol : out.length = m := by have := hown.1; simpa using this
      have hin : j + k < m := by omega
      have bo' := words_getD HOW.out (j + k)
      have hcell : wr.cell? ⟨gu, j + k, none⟩ = some (.int .u32 (out.getD (j + k) 0)) := by
        rw [hown.cellAt (j + k) (by omega)]
        simp [List.getD, List.getElem?_eq_getElem (show j + k < out.length by omega)]
      have hfz : wr.frozen? ⟨gu, j + k, none⟩ = false := hown.frozenAt (j + k)
      obtain ⟨x, ex⟩ : ∃ o, o = out.getD (j + k) 0 := ⟨_, rfl⟩
      rw [← ex] at hcell bo'
      obtain ⟨bx0, bx1⟩ := bo'
      obtain ⟨by0, by1⟩ := words_getD HWV.out k
      obtain ⟨y, ey⟩ : ∃ y, y = vs.getD k 0 := ⟨_, rfl⟩
      rw [← ey] at by0 by1
      have hT := take_step out vs (bval us) j k (g : Int) x y cr bo hg0 bx0 bx1 by0 hc0 hb0 hb1 (by omega) ex ey hval.out
      obtain ⟨mb0, mb1⟩ := mul_bound hg0 hg1 by0 by1
      have hmy : y = 0 → (g : Int) * y = 0 := fun h => by rw [h]; simp
      obtain ⟨z, hz⟩ : ∃ z, z = (g : Int) * y := ⟨_, rfl⟩
      have hmul : (g : Int) * y = z := hz.symm
      rw [hmul] at hT
      rw [← hz] at mb0 mb1 hmy
      have EY := Lib.hid ey
      have EX := Lib.hid ex
      clear hz ex ey
      have hd0 : 0 ≤ (cr + z) % 4294967296 := by omega
      have hd1 : (cr + z) % 4294967296 ≤ 4294967295 := by omega
      have hq0 : 0 ≤ (cr + z) / 4294967296 := by omega
      have hq1 : (cr + z) / 4294967296 ≤ 4294967295 := by omega
      have hst := hown.stored (j + k) (.int .u32 ((x - (cr + z) % 4294967296 - bo) % 4294967296))
      have hn0 : 0 ≤ (x - (cr + z) % 4294967296 - bo) % 4294967296 := by omega
      have hn1 : (x - (cr + z) % 4294967296 - bo) % 4294967296 ≤ 4294967295 := by omega
      have HON : Hid ((wr.setCell ⟨gu, j + k, none⟩ (.int .u32 ((x - (cr + z) % 4294967296 - bo) % 4294967296))).ownsRow B0 27 1 (.slice (some ⟨gu, 0, none⟩) m cap) m ((out.set (j + k) ((x - (cr + z) % 4294967296 - bo) % 4294967296)).map (Value.int .u32))) := by
        show World.ownsRow _ _ _ _ _ _ _
        rw [List.map_set]; exact hst.1
      have HGN := Lib.hid (HG.out.trans hst.2)
      have hw3 := Lib.hid (words_set HOW.out (j + k) _ hn0 hn1)
      have hs3 := Lib.hid (HSO.out.set (j + k) ((x - (cr + z) % 4294967296 - bo) % 4294967296) (by omega) (by omega))
      obtain ⟨br0, br1⟩ := borrow_range x ((cr + z) % 4294967296) bo
      have HT := Lib.hid hT
      have HRV := Lib.hid (HV.out.grown HG.out HNE.out)
      clear hst hT hn0 hn1 hol hval hlast HOW HSO HG hown
      by_cases hky : k < nv
      · obtain ⟨b2, o2, rfl, -, hcy⟩ := HRV.out.addr (by have := HNV.out; omega)
        have hy := hcy k (by have := HNV.out; omega)
        rw [← EY.out] at hy
        clear hcy hmy
        go_wp2_with fail
        refine (sub32_any x ((cr + z) % 4294967296) bo _ bx0 bx1 hd0 hd1 hb0 hb1).mono ?_
        rintro e w' ⟨rfl, rfl⟩
        go_wp2
        go_roundw
        case rel => exact ⟨k + 1, (cr + z) / 4294967296, borrowOf x ((cr + z) % 4294967296) bo, out.set (j + k) ((x - (cr + z) % 4294967296 - bo) % 4294967296), by omega, by go_num, rfl, hq0, hq1, rfl, br0, br1, HON.out, hw3, hs3, HT, (fun h => by omega), HGN⟩
        case measure => simp [intOf]; omega
      · obtain rfl : k = nv := by omega
        have hy0 : y = 0 := by rw [EY.out]; simp [List.getD, List.getElem?_eq_none (show vs.length ≤ k by have := HNV.out; omega)]
        obtain rfl := hmy hy0
        have hm1 : (cr + 0) % 4294967296 = cr := by omega
        have hm2 : (cr + 0) / 4294967296 = 0 := by omega
        rw [hm1] at HON HGN hw3 hs3 br0 br1 HT hd0 hd1
        rw [hm2] at HT
        clear hm1 hm2 hmul mb0 mb1 hy0 EY hq0 hq1 hmy
        go_wp2_with fail
        refine (sub32_any x cr bo _ bx0 bx1 hd0 hd1 hb0 hb1).mono ?_
        rintro e w' ⟨rfl, rfl⟩
        go_wp2
        go_roundw
        case rel => exact ⟨k + 1, 0, borrowOf x cr bo, out.set (j + k) ((x - cr - bo) % 4294967296), by omega, by go_num, (by congr 1; omega), by omega, by omega, rfl, br0, br1, HON.out, hw3, hs3, HT, (fun h => rfl), HGN⟩
        case measure => simp [intOf]
    · obtain rfl : k = nv + 1 := by omega
      have hcz := hlast.out rfl
      subst hcz
      have hfin : win out j (nv + 1) + g * bval vs = win us j (nv + 1) + 4294967296 ^ (nv + 1) * bo.toNat := by
        have h1 := hval.out
        rw [List.take_of_length_le (by have := HNV.out; omega)] at h1
        simp only [Int.toNat_zero, Nat.zero_add] at h1
        rw [Nat.pow_add, Nat.mul_assoc] at h1
        exact win_of us out j (nv + 1) _ _ HSO.out (by rw [HLU.out]; exact hj) h1
      have HF := Lib.hid hfin
      have hown' := Lib.hid hown
      clear hfin hval hlast hown
      rcases kzb bo hb0 hb1 with ⟨rfl, h1, h2⟩ | ⟨rfl, h1, h2⟩
      · go_wp2
        go_ret
        exact ⟨out, 0, by omega, rfl, hown'.out, HOW.out, HSO.out, HF.out, HG.out⟩
      · go_wp2
        go_ret
        exact ⟨out, 1, by omega, rfl, hown'.out, HOW.out, HSO.out, HF.out, HG.out⟩

/-- a window has become greater by v, but for what is carried over it -/
def GivesPost (B0 gu m cap : Nat) (us vs : List Int) (j k : Nat) (w : World) (e : Ending) (w' : World) : Prop :=
  ∃ (out : List Int) (c : Nat), c ≤ 1 ∧ e = .returned (.tuple #[]) ∧ w'.ownsRow B0 27 1 (.slice (some ⟨gu, 0, none⟩) m cap) m (out.map (Value.int .u32)) ∧ Words out ∧ SameOut us out j k ∧
    win out j k + 4294967296 ^ k * c = win us j k + bval vs ∧ w.grownBy w' (some gu)

set_option maxHeartbeats 1000000 in
theorem gives_any (B0 gu m cap cw : Nat) (us vs : List Int) (j : Nat) (vd : Option Addr) (vc : Nat) (w : World) (hown : w.ownsRow B0 27 1 (.slice (some ⟨gu, 0, none⟩) m cap) m (us.map (Value.int .u32))) (hw : Words us) (hv : Rd .u32 w vd vc vs)
    (hne : ∀ a, vd = some a → 0 < vs.length → some a.block ≠ some gu) (hj : j + (vs.length + 1) ≤ m) (hm : m ≤ 2097152) :
    Calls Tryd.prog 74 #[.slice (some ⟨gu, j, none⟩) (vs.length + 1 : Nat) cw, .slice vd vs.length vc] w (GivesPost B0 gu m cap us vs j (vs.length + 1) w) := by
  have hwv := words_of_rd hv
  have hlu : us.length = m := by have := hown.1; simpa using this
  have HV := Lib.hid hv
  have HNE := Lib.hid hne
  have HW := Lib.hid hw
  have HWV := Lib.hid hwv
  have HLU := Lib.hid hlu
  clear hv hne hw hwv hlu
  obtain ⟨nv, hnv⟩ : ∃ nv, nv = vs.length := ⟨_, rfl⟩
  rw [← hnv] at hj ⊢
  have HNV := Lib.hid hnv
  clear hnv
  go_enter Tryd.func74, Tryd.ntmps74
  go_wp2
  go_loopw [4, 9] (fun b i wr => ∃ (k : Nat) (bo : Int) (out : List Int), k ≤ nv + 1 ∧ i = .int .i64 k ∧ b = .int .u32 bo ∧ 0 ≤ bo ∧ bo ≤ 1 ∧
      wr.ownsRow B0 27 1 (.slice (some ⟨gu, 0, none⟩) m cap) m (out.map (Value.int .u32)) ∧ Hid (Words out) ∧ Hid (SameOut us out j (nv + 1)) ∧
      Hid (bval out + 4294967296 ^ (j + k) * bo.toNat = bval us + 4294967296 ^ j * bval (vs.take k)) ∧ Hid (w.grownBy wr (some gu)))
    (fun _ i _ => nv + 1 - (intOf i).toNat)
  case atStart => exact ⟨0, 0, us, Nat.zero_le _, rfl, rfl, by omega, by omega, hown, HW.out, SameOut.refl _ _ _, by show _ = _; simp [bval], World.grownBy.refl _ _⟩
  case round =>
    clear hown
    obtain ⟨k, bo, out, hk, rfl, rfl, hb0, hb1, hown, HOW, HSO, hval, HG⟩ := hrel
    by_cases hlt : k < nv + 1
    · have hol : out.length = m := by have := hown.1; simpa using this
      have hin : j + k < m := by omega
      have bo' := words_getD HOW.out (j + k)
      have hcell : wr.cell? ⟨gu, j + k, none⟩ = some (.int .u32 (out.getD (j + k) 0)) := by
        rw [hown.cellAt (j + k) (by omega)]
        simp [List.getD, List.getElem?_eq_getElem (show j + k < out.length by omega)]
      have hfz : wr.frozen? ⟨gu, j + k, none⟩ = false := hown.frozenAt (j + k)
      obtain ⟨x, ex⟩ : ∃ o, o = out.getD (j + k) 0 := ⟨_, rfl⟩
      rw [← ex] at hcell bo'
      obtain ⟨bx0, bx1⟩ := bo'
      obtain ⟨by0, by1⟩ := words_getD HWV.out k
      obtain ⟨y, ey⟩ : ∃ y, y = vs.getD k 0 := ⟨_, rfl⟩
      rw [← ey] at by0 by1
      have hT := give_step out vs (bval us) j k x y bo bx0 by0 hb0 (by omega) ex ey hval.out
      have EY := Lib.hid ey
      clear ex ey
      have hq0 : 0 ≤ (x + y + bo) / 4294967296 := by omega
      have hq1 : (x + y + bo) / 4294967296 ≤ 1 := by omega
      have hst := hown.stored (j + k) (.int .u32 ((x + y + bo) % 4294967296))
      have HON : Hid ((wr.setCell ⟨gu, j + k, none⟩ (.int .u32 ((x + y + bo) % 4294967296))).ownsRow B0 27 1 (.slice (some ⟨gu, 0, none⟩) m cap) m ((out.set (j + k) ((x + y + bo) % 4294967296)).map (Value.int .u32))) := by
        show World.ownsRow _ _ _ _ _ _ _
        rw [List.map_set]; exact hst.1
      have HGN := Lib.hid (HG.out.trans hst.2)
      have hw3 := Lib.hid (words_set HOW.out (j + k) ((x + y + bo) % 4294967296) (by omega) (by omega))
      have hs3 := Lib.hid (HSO.out.set (j + k) ((x + y + bo) % 4294967296) (by omega) (by omega))
      have HT := Lib.hid hT
      have HRV := Lib.hid (HV.out.grown HG.out HNE.out)
      clear hst hT hol hval HOW HSO HG hown
      by_cases hky : k < nv
      · obtain ⟨b2, o2, rfl, -, hcy⟩ := HRV.out.addr (by have := HNV.out; omega)
        have hy := hcy k (by have := HNV.out; omega)
        rw [← EY.out] at hy
        clear hcy
        go_wp2_with fail
        refine (add32_any x y bo _ bx0 bx1 by0 by1 hb0 hb1).mono ?_
        rintro e w' ⟨rfl, rfl⟩
        go_wp2
        go_roundw
        case rel => exact ⟨k + 1, (x + y + bo) / 4294967296, out.set (j + k) ((x + y + bo) % 4294967296), by omega, by go_num, rfl, hq0, hq1, HON.out, hw3, hs3, HT, HGN⟩
        case measure => simp [intOf]; omega
      · obtain rfl : k = nv := by omega
        have hy0 : y = 0 := by rw [EY.out]; simp [List.getD, List.getElem?_eq_none (show vs.length ≤ k by have := HNV.out; omega)]
        subst hy0
        clear EY
        go_wp2_with fail
        refine (add32_any x 0 bo _ bx0 bx1 by0 by1 hb0 hb1).mono ?_
        rintro e w' ⟨rfl, rfl⟩
        simp only [Int.add_zero] at HON HGN hw3 hs3 HT hq0 hq1
        go_wp2
        go_roundw
        case rel => exact ⟨k + 1, (x + bo) / 4294967296, out.set (j + k) ((x + bo) % 4294967296), by omega, by go_num, (by first | rfl | simp), hq0, hq1, HON.out, hw3, hs3, HT, HGN⟩
        case measure => simp [intOf]
    · obtain rfl : k = nv + 1 := by omega
      have hfin : win out j (nv + 1) + 4294967296 ^ (nv + 1) * bo.toNat = win us j (nv + 1) + bval vs := by
        have h1 := hval.out
        rw [List.take_of_length_le (by have := HNV.out; omega)] at h1
        rw [Nat.pow_add, Nat.mul_assoc] at h1
        exact win_of us out j (nv + 1) _ _ HSO.out (by rw [HLU.out]; exact hj) h1
      have HF := Lib.hid hfin
      have hown' := Lib.hid hown
      clear hfin hval hown
      go_wp2
      go_end0
      exact ⟨out, bo.toNat, by omega, rfl, hown'.out, HOW.out, HSO.out, HF.out, HG.out⟩
end Go.Proofs.YtmieegcnfnoiiaaDoor
