/-
  The contract of big.Mul. Condition: the slices have at most 2^20 words.
-/
import Derived.Test.YtmieegcnfnoiiaaDoorBigAdd
namespace Go.Proofs.YtmieegcnfnoiiaaDoor
open Go.RowKit Gx
set_option maxRecDepth 100000

theorem bval_set : ∀ (l : List Int) (j : Nat) (v : Int), j < l.length → bval (l.set j v) + 4294967296 ^ j * (l.getD j 0).toNat = bval l + 4294967296 ^ j * v.toNat
  | [], j, v, h => by simp at h
  | x :: l, 0, v, _ => by simp [bval]; omega
  | x :: l, j + 1, v, h => by
    have ih := bval_set l j v (by simpa using h)
    simp only [List.set_cons_succ, bval, Nat.pow_succ]
    have e1 : (x :: l).getD (j + 1) 0 = l.getD j 0 := by simp [List.getD]
    rw [e1]
    have h1 : 4294967296 ^ j * 4294967296 * (l.getD j 0).toNat = 4294967296 * (4294967296 ^ j * (l.getD j 0).toNat) := by
      rw [Nat.mul_comm (4294967296 ^ j) 4294967296, Nat.mul_assoc]
    have h2 : 4294967296 ^ j * 4294967296 * v.toNat = 4294967296 * (4294967296 ^ j * v.toNat) := by
      rw [Nat.mul_comm (4294967296 ^ j) 4294967296, Nat.mul_assoc]
    rw [h1, h2]
    omega
theorem words_set {l : List Int} (h : Words l) (j : Nat) (v : Int) (h0 : 0 ≤ v) (h1 : v ≤ 4294967295) : Words (l.set j v) := by
  intro x hx
  rcases List.mem_or_eq_of_mem_set hx with hx | rfl
  · exact h x hx
  · omega
theorem getD_set_ne (l : List Int) (i j : Nat) (v : Int) (h : i ≠ j) : (l.set i v).getD j 0 = l.getD j 0 := by
  simp [List.getD, List.getElem?_set, h]
theorem bval_replicate (n : Nat) : bval (List.replicate n 0) = 0 := bval_zeros _ (fun x hx => (List.mem_replicate.1 hx).2)

theorem madeCells_one (k : IntKind) (n : Nat) : (madeCells #[Value.int k 0] n).toList = (List.replicate n (0 : Int)).map (Value.int k) := by
  apply List.ext_getElem
  · simp [madeCells]
  · intro i h1 h2
    simp [madeCells, Nat.mod_one]

theorem mul_bound {x y : Int} (hx : 0 ≤ x) (hx' : x ≤ 4294967295) (hy : 0 ≤ y) (hy' : y ≤ 4294967295) : 0 ≤ x * y ∧ x * y ≤ 18446744065119617025 := by
  refine ⟨Int.mul_nonneg hx hy, ?_⟩
  have h1 : x * y ≤ 4294967295 * y := Int.mul_le_mul_of_nonneg_right hx' hy
  have h2 : 4294967295 * y ≤ 4294967295 * 4294967295 := Int.mul_le_mul_of_nonneg_left hy' (by decide)
  omega

/-- a round of the inner loop, in numbers -/
theorem mul_step (out : List Int) (p q i k : Nat) (x y c o : Int) (hx : 0 ≤ x) (hy : 0 ≤ y) (hc : 0 ≤ c) (ho : 0 ≤ o) (hi : i + k < out.length) (eo : o = out.getD (i + k) 0) (ys : List Int) (ey : y = ys.getD k 0)
    (h : bval out + 4294967296 ^ (i + k) * c.toNat = p + 4294967296 ^ i * (x.toNat * bval (ys.take k))) (hq : q = 4294967296 ^ (i + k)) :
    bval (out.set (i + k) ((c + (x * y + o)) % 4294967296)) + 4294967296 ^ (i + (k + 1)) * ((c + (x * y + o)) / 4294967296).toNat = p + 4294967296 ^ i * (x.toNat * bval (ys.take (k + 1))) := by
  have hs := bval_set out (i + k) ((c + (x * y + o)) % 4294967296) hi
  rw [← eo, ← hq] at hs
  rw [← hq] at h
  rw [bval_take_succ, ← ey]
  have e1 : 4294967296 ^ (i + (k + 1)) = q * 4294967296 := by rw [hq, ← Nat.add_assoc, Nat.pow_succ]
  have e2 : 4294967296 ^ i * (x.toNat * (bval (ys.take k) + 4294967296 ^ k * y.toNat)) = 4294967296 ^ i * (x.toNat * bval (ys.take k)) + q * (x.toNat * y.toNat) := by
    rw [hq, Nat.mul_add, Nat.mul_add, Nat.pow_add]
    congr 1
    rw [Nat.mul_assoc]
    congr 1
    rw [← Nat.mul_assoc, Nat.mul_comm x.toNat, Nat.mul_assoc]
  rw [e1, e2]
  have hp : 0 ≤ x * y := Int.mul_nonneg hx hy
  have exy : (x * y).toNat = x.toNat * y.toNat := by
    obtain ⟨a, rfl⟩ := Int.eq_ofNat_of_zero_le hx
    obtain ⟨b, rfl⟩ := Int.eq_ofNat_of_zero_le hy
    simp only [Int.toNat_natCast]
    rw [← Int.natCast_mul, Int.toNat_natCast]
  rw [← exy]
  generalize x * y = z at *
  have e3 : ((c + (z + o)) % 4294967296).toNat + 4294967296 * ((c + (z + o)) / 4294967296).toNat = c.toNat + z.toNat + o.toNat := by omega
  have e4 : q * ((c + (z + o)) % 4294967296).toNat + q * 4294967296 * ((c + (z + o)) / 4294967296).toNat = q * c.toNat + q * z.toNat + q * o.toNat := by
    rw [Nat.mul_assoc, ← Nat.mul_add, e3, Nat.mul_add, Nat.mul_add]
  omega

set_option maxHeartbeats 1000000 in
theorem bigMul_any (ad bd : Option Addr) (ca cb : Nat) (xs ys : List Int) (w : World) (h : Rd .u32 w ad ca xs) (g : Rd .u32 w bd cb ys) (hl : xs.length ≤ 1048576) (hl2 : ys.length ≤ 1048576) :
    Calls Tryd.prog 14 #[.slice ad xs.length ca, .slice bd ys.length cb] w (WordsPost (bval xs * bval ys) w) := by
  have hwx := words_of_rd h
  have hwy := words_of_rd g
  have H := Lib.hid h
  have G := Lib.hid g
  have HWX := Lib.hid hwx
  have HWY := Lib.hid hwy
  clear h g hwx hwy
  go_enter Tryd.func14, Tryd.ntmps14
  obtain ⟨i0, hi, hz0, hz1, hz2⟩ := info_parts Tryd.info_u32
  have HI := Lib.hid hi
  have HZ0 := Lib.hid hz0
  have HZ1 := Lib.hid hz1
  clear hi hz0 hz1
  go_wp2_with (first
    | (at_make; refine wpList_make_full _ rfl _ _ 29 rfl w.heap.size 27 i0 (.int .u32 0) 1 Tryd.underlying29 HI.out HZ0.out HZ1.out .i64 .i64 _ _ (xs.length + ys.length) rfl rfl (by omega) (by omega) (by rw [hz2]; omega) (by unfold maxLen; omega) (Nat.le_refl _) ?_))
  intro w1 hown hg
  have hb : Below w.heap.size w w1 := Gx.grown_below hg (Nat.le_refl _) (by simp)
  rw [madeCells_one] at hown
  clear hg hz2 HI HZ0 HZ1
  obtain ⟨n, hn⟩ : ∃ n, n = xs.length + ys.length := ⟨_, rfl⟩
  obtain ⟨gb, hgb⟩ : ∃ gb, gb = w.heap.size := ⟨_, rfl⟩
  rw [← hn] at hown ⊢
  rw [show Value.slice (some ⟨w.heap.size, 0, none⟩) n n = Value.slice (some ⟨gb, 0, none⟩) n n from by rw [hgb]] at hown ⊢
  have HN := Lib.hid hn; clear hn
  have HGB := Lib.hid hgb; clear hgb
  have hnb : n ≤ 2097152 := by have := HN.out; omega
  go_wp2
  go_loopw [19] (fun i wr => ∃ (k : Nat) (out : List Int), k ≤ xs.length ∧ i = .int .i64 k ∧
      wr.ownsRow w.heap.size 27 1 (.slice (some ⟨gb, 0, none⟩) n n) n (out.map (Value.int .u32)) ∧ Hid (out.length = n) ∧ Words out ∧ Hid (bval out = bval (xs.take k) * bval ys) ∧
      Hid (∀ j, k + ys.length ≤ j → out.getD j 0 = 0) ∧ Below w.heap.size w wr)
    (fun i _ => xs.length - (intOf i).toNat)
  case atStart =>
    refine ⟨0, List.replicate n 0, Nat.zero_le _, rfl, hown, by simp [Hid], fun x hx => ?_, ?_, fun j _ => ?_, hb⟩
    · have := (List.mem_replicate.1 hx).2; omega
    · show _ = _
      rw [bval_replicate]; simp [bval]
    · simp [List.getD, List.getElem?_replicate]
      split <;> rfl
  case round =>
    obtain ⟨i, out, hk, rfl, hown1, hol, how, hval, hzer, hb1⟩ := hrel
    have HOW := Lib.hid how
    clear how hown hb
    by_cases hkx : i < xs.length
    · obtain ⟨b1, o1, rfl, -, hcx⟩ := (H.out.keep hb1).addr (by omega)
      have hx := hcx i hkx
      clear hcx
      have bx := words_getD HWX.out i
      obtain ⟨x, ex⟩ : ∃ x, x = xs.getD i 0 := ⟨_, rfl⟩
      rw [← ex] at hx bx
      have EX := Lib.hid ex; clear ex
      obtain ⟨bx0, bx1⟩ := bx
      go_wp2
      obtain ⟨wo, rfl⟩ : ∃ wo : World, wo = wr := ⟨_, rfl⟩
      clear hx
      go_loopw [8, 26] (fun c j wr => ∃ (k : Nat) (cr : Int) (out2 : List Int), k ≤ ys.length ∧ j = .int .i64 k ∧ c = .int .u64 cr ∧ 0 ≤ cr ∧ cr ≤ 4294967295 ∧
          wr.ownsRow w.heap.size 27 1 (.slice (some ⟨gb, 0, none⟩) n n) n (out2.map (Value.int .u32)) ∧ Hid (out2.length = n) ∧ Words out2 ∧
          Hid (bval out2 + 4294967296 ^ (i + k) * cr.toNat = bval out + 4294967296 ^ i * (x.toNat * bval (ys.take k))) ∧ Hid (∀ j, i + ys.length ≤ j → out2.getD j 0 = 0) ∧ Below w.heap.size w wr)
        (fun _ j _ => ys.length - (intOf j).toNat)
      case atStart => exact ⟨0, 0, out, Nat.zero_le _, rfl, rfl, by omega, by omega, hown1, hol, HOW.out, by simp [Hid, bval], hzer.out, hb1⟩
      case round =>
        clear hown1 hb1 hol HOW
        obtain ⟨k, cr, out2, hk2, rfl, rfl, hc0, hc1, hown2, hol2, how2, hval2, hzer2, hb2⟩ := hrel
        have hol2' : out2.length = n := hol2.out
        have HOW2 := Lib.hid how2
        clear how2
        have hlen : i + ys.length < n + 1 := by have := HN.out; omega
        by_cases hky : k < ys.length
        · obtain ⟨b2, o2, rfl, -, hcy⟩ := (G.out.keep hb2).addr (by omega)
          have hy := hcy k hky
          clear hcy
          have by_ := words_getD HWY.out k
          obtain ⟨y, ey⟩ : ∃ y, y = ys.getD k 0 := ⟨_, rfl⟩
          rw [← ey] at hy by_
          have EY := Lib.hid ey; clear ey
          obtain ⟨by0, by1⟩ := by_
          have hin : i + k < n := by have := HN.out; omega
          have bo := words_getD HOW2.out (i + k)
          have hcell : wr.cell? ⟨gb, i + k, none⟩ = some (.int .u32 (out2.getD (i + k) 0)) := by
            rw [hown2.cellAt (i + k) (by omega)]
            simp [List.getD, List.getElem?_eq_getElem (show i + k < out2.length by omega)]
          have hfz : wr.frozen? ⟨gb, i + k, none⟩ = false := hown2.frozenAt (i + k)
          obtain ⟨o, eo⟩ : ∃ o, o = out2.getD (i + k) 0 := ⟨_, rfl⟩
          rw [← eo] at hcell bo
          have EO := Lib.hid eo; clear eo
          obtain ⟨bo0, bo1⟩ := bo
          obtain ⟨mb0, mb1⟩ := mul_bound bx0 bx1 by0 by1
          have HT := Lib.hid (mul_step out2 (bval out) _ i k x y cr o bx0 by0 hc0 bo0 (by omega) EO.out ys EY.out hval2.out rfl)
          clear hol2'
          obtain ⟨m, hm⟩ : ∃ m, m = x * y := ⟨_, rfl⟩
          have hmul : x * y = m := hm.symm
          rw [← hm] at mb0 mb1
          clear hm
          have hb3 := hb2.size
          have hgb : w.heap.size ≤ gb := by rw [HGB.out]; exact Nat.le_refl _
          have hst := hown2.stored (i + k) (.int .u32 ((cr + (m + o)) % 4294967296))
          have hbn : Below w.heap.size w (wr.setCell ⟨gb, i + k, none⟩ (.int .u32 ((cr + (m + o)) % 4294967296))) := hb2.grown hst.2 hb3 (fun q e => by cases e; exact hgb)
          have hon : (wr.setCell ⟨gb, i + k, none⟩ (.int .u32 ((cr + (m + o)) % 4294967296))).ownsRow w.heap.size 27 1 (.slice (some ⟨gb, 0, none⟩) n n) n ((out2.set (i + k) ((cr + (m + o)) % 4294967296)).map (Value.int .u32)) := by
            rw [List.map_set]; exact hst.1
          have HON := Lib.hid hon
          have HBN := Lib.hid hbn
          have hw3 := Lib.hid (words_set HOW2.out (i + k) ((cr + (m + o)) % 4294967296) (by omega) (by omega))
          have hl3 : Hid ((out2.set (i + k) ((cr + (m + o)) % 4294967296)).length = n) := by show _ = _; rw [List.length_set]; exact hol2.out
          have hz3 : Hid (∀ j, i + ys.length ≤ j → (out2.set (i + k) ((cr + (m + o)) % 4294967296)).getD j 0 = 0) := by
            intro j hj
            have := hzer2.out j hj
            rw [getD_set_ne _ _ _ _ (by omega)]; exact this
          rw [hmul] at HT
          clear hst hbn hon hown2
          go_wp2
          go_roundw
          case rel => exact ⟨k + 1, (cr + (m + o)) / 4294967296, out2.set (i + k) ((cr + (m + o)) % 4294967296), by omega, by go_num, rfl, by omega, by omega, HON.out, hl3, hw3.out, HT, hz3, HBN.out⟩
          case measure => simp [intOf]; omega
        · obtain rfl : k = ys.length := by omega
          have hin : i + ys.length < n := by have := HN.out; omega
          have hcell : wr.cell? ⟨gb, i + ys.length, none⟩ = some (.int .u32 0) := by
            rw [hown2.cellAt (i + ys.length) (by omega)]
            have := hzer2.out (i + ys.length) (Nat.le_refl _)
            simp [List.getD, List.getElem?_eq_getElem (show i + ys.length < out2.length by omega)] at this
            simp [List.getElem?_eq_getElem (show i + ys.length < out2.length by omega), this]
          have hfz : wr.frozen? ⟨gb, i + ys.length, none⟩ = false := hown2.frozenAt (i + ys.length)
          have hb3 := hb2.size
          have hgb : w.heap.size ≤ gb := by rw [HGB.out]; exact Nat.le_refl _
          have hst := hown2.stored (i + ys.length) (.int .u32 cr)
          have hbn : Below w.heap.size w (wr.setCell ⟨gb, i + ys.length, none⟩ (.int .u32 cr)) := hb2.grown hst.2 hb3 (fun q e => by cases e; exact hgb)
          have hon : (wr.setCell ⟨gb, i + ys.length, none⟩ (.int .u32 cr)).ownsRow w.heap.size 27 1 (.slice (some ⟨gb, 0, none⟩) n n) n ((out2.set (i + ys.length) cr).map (Value.int .u32)) := by
            rw [List.map_set]; exact hst.1
          have HON := Lib.hid hon
          have HBN := Lib.hid hbn
          have hw3 := Lib.hid (words_set HOW2.out (i + ys.length) cr hc0 hc1)
          have hl3 : Hid ((out2.set (i + ys.length) cr).length = n) := by show _ = _; rw [List.length_set]; exact hol2.out
          have hz3 : Hid (∀ j, i + 1 + ys.length ≤ j → (out2.set (i + ys.length) cr).getD j 0 = 0) := by
            intro j hj
            have := hzer2.out j (by omega)
            rw [getD_set_ne _ _ _ _ (by omega)]; exact this
          have hv3 : Hid (bval (out2.set (i + ys.length) cr) = bval (xs.take (i + 1)) * bval ys) := by
            show _ = _
            have h1 := bval_set out2 (i + ys.length) cr (by omega)
            rw [hzer2.out (i + ys.length) (Nat.le_refl _)] at h1
            have h2 := hval2.out
            rw [List.take_of_length_le (Nat.le_refl _), hval.out] at h2
            rw [bval_take_succ, ← EX.out, Nat.add_mul]
            simp only [Int.toNat_zero, Nat.mul_zero, Nat.add_zero] at h1
            rw [h1, h2, Nat.mul_assoc]
          clear hst hbn hon hown2 hol2'
          go_wp2
          go_roundw
          case rel => exact ⟨i + 1, out2.set (i + ys.length) cr, by omega, by go_num, HON.out, hl3, hw3.out, hv3, hz3, HBN.out⟩
          case measure => simp [intOf]; omega
    · obtain rfl : i = xs.length := by omega
      have hown3 := hown1
      obtain ⟨ad', cap', he, hr⟩ := Gx.Rd.own (k := .u32) (xs := out) hown3 (wf_words HOW.out)
      have hln := hol.out
      obtain ⟨rfl, -, rfl⟩ : some ⟨gb, 0, none⟩ = ad' ∧ n = out.length ∧ n = cap' := by simpa using he
      have HR := Lib.hid hr
      clear hr hown1 hown3 he
      have hfin : bval out = bval xs * bval ys := by
        rw [hval.out, List.take_of_length_le (Nat.le_refl _)]
      have HF := Lib.hid hfin; clear hfin
      clear HN hol
      subst hln
      go_wp2_with (first
        | (go_at_call 26; refine (trimmed_any (some ⟨gb, 0, none⟩) out.length out _ HR.out (by omega)).mono ?_; rintro e w' ⟨rfl, rfl⟩))
      go_ret
      refine ⟨some ⟨gb, 0, none⟩, out.length, ?_, ?_, hb1⟩
      · rw [← HF.out]; rfl
      · rw [← HF.out]; exact HR.out.trim
end Go.Proofs.YtmieegcnfnoiiaaDoor
