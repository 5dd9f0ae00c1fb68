/-
  The contracts of big.less and big.Sub. Condition: the slices have at most 2^20 words.
-/
import Derived.Test.YtmieegcnfnoiiaaDoorBigCmp
namespace Go.Proofs.YtmieegcnfnoiiaaDoor
open Go.RowKit Gx
set_option maxRecDepth 100000

/-- a round of taking off, in numbers -/
theorem sub_step (out ys : List Int) (X q k : Nat) (x y c : Int) (hx : 0 ≤ x) (hx1 : x ≤ 4294967295) (hy : 0 ≤ y) (hy1 : y ≤ 4294967295) (hc : 0 ≤ c) (hc1 : c ≤ 1) (hk : k < out.length) (ex : x = out.getD k 0) (ey : y = ys.getD k 0)
    (h : bval out + bval (ys.take k) = X + 4294967296 ^ k * c.toNat) (hq : q = 4294967296 ^ k) :
    bval (out.set k ((x - y - c) % 4294967296)) + bval (ys.take (k + 1)) = X + 4294967296 ^ (k + 1) * (borrowOf x y c).toNat := by
  have hs := bval_set out k ((x - y - c) % 4294967296) hk
  rw [← ex, ← hq] at hs
  rw [bval_take_succ, ← ey, Nat.pow_succ, ← hq]
  rw [← hq] at h
  have hb : (borrowOf x y c) * 4294967296 = (x - y - c) % 4294967296 - (x - y - c) ∧ 0 ≤ borrowOf x y c := by
    unfold borrowOf
    split <;> omega
  have e3 : ((x - y - c) % 4294967296).toNat + y.toNat + c.toNat = x.toNat + 4294967296 * (borrowOf x y c).toNat := by omega
  have e4 : q * ((x - y - c) % 4294967296).toNat + q * y.toNat + q * c.toNat = q * x.toNat + q * 4294967296 * (borrowOf x y c).toNat := by
    rw [Nat.mul_assoc, ← Nat.mul_add, ← Nat.mul_add, ← Nat.mul_add, e3]
  omega

theorem borrow_range (x y c : Int) : 0 ≤ borrowOf x y c ∧ borrowOf x y c ≤ 1 := by
  unfold borrowOf
  split <;> omega

set_option maxHeartbeats 1000000 in
theorem bigLess_any (ad bd : Option Addr) (ca cb : Nat) (xs ys : List Int) (w : World) (h : Rd .u32 w ad ca xs) (g : Rd .u32 w bd cb ys) (hl : xs.length ≤ 1048576) (hyl : ys.length ≤ xs.length) (hle : bval ys ≤ bval xs) :
    Calls Tryd.prog 46 #[.slice ad xs.length ca, .slice bd ys.length cb] w (WordsPost (bval xs - bval ys) w) := by
  have hwx := words_of_rd h
  have hwy := words_of_rd g
  obtain ⟨s1, s2, s3, s4⟩ := h.src
  have S2 := Lib.hid s2
  have S3 := Lib.hid s3
  have S4 := Lib.hid s4
  have G := Lib.hid g
  have HWX := Lib.hid hwx
  have HWY := Lib.hid hwy
  have HLE := Lib.hid hle
  clear h g hwx hwy s1 s2 s3 s4 hle
  go_enter Tryd.func46, Tryd.ntmps46
  go_wp2_with (first
    | (at_builtin; refine Gx.wpList_append_all w rfl _ _ 29 rfl w.heap.size 27 (.int .u32 0) 1 4 Tryd.underlying29 Tryd.info_u32 rfl (by decide) _ 0 [] ad _ ca (xs.map (Value.int .u32)) rfl rfl (World.ownsRow_nil _ _ _ _) (by simp) S2.out S3.out S4.out ?_ ?_ (Nat.le_refl _) ?_))
  · omega
  · omega
  intro v' w1 hown hg _
  have hb : Below w.heap.size w w1 := Gx.grown_below hg (Nat.le_refl _) (by simp [Value.ownBlock])
  clear hg S2 S3 S4
  by_cases h0 : xs.length = 0
  · obtain rfl : xs = [] := List.eq_nil_of_length_eq_zero h0
    obtain rfl : ys = [] := List.eq_nil_of_length_eq_zero (by simpa using hyl)
    obtain ⟨ad', cap', rfl, hr⟩ := Gx.Rd.own (k := .u32) (xs := []) (by simpa using hown) (by intro x hx; simp at hx)
    have HR := Lib.hid hr
    clear hown hr
    go_wp2
    refine wp_loop_rounds 1 ?_
    rw [rounds_succ]
    go_wp2_with (first
      | (go_at_call 26; refine (trimmed_any ad' cap' [] _ HR.out (by simp)).mono ?_; rintro e w' ⟨rfl, rfl⟩))
    go_ret
    exact ⟨ad', cap', rfl, HR.out.trim, hb⟩
  obtain ⟨gb, cap, rfl, hgb, hnc, hgs, -⟩ := Gx.own_cell hown (by omega)
  obtain ⟨n, hn⟩ : ∃ n, n = xs.length := ⟨_, rfl⟩
  rw [← hn] at hown hnc hl hyl h0 ⊢
  have HN := Lib.hid hn; clear hn
  go_wp2
  go_loopw [6, 13] (fun c i wr => ∃ (k : Nat) (out : List Int) (cr : Int), k ≤ n ∧ i = .int .i64 k ∧ c = .int .u32 cr ∧ 0 ≤ cr ∧ cr ≤ 1 ∧
      wr.ownsRow w.heap.size 27 1 (.slice (some ⟨gb, 0, none⟩) n cap) n (out.map (Value.int .u32)) ∧ Hid (out.length = n) ∧ Words out ∧ Hid (bval out + bval (ys.take k) = bval xs + 4294967296 ^ k * cr.toNat) ∧ Below w.heap.size w wr)
    (fun _ i _ => n - (intOf i).toNat)
  case atStart => exact ⟨0, xs, 0, Nat.zero_le _, rfl, rfl, by omega, by omega, hown, HN.out.symm, HWX.out, by simp [Hid, bval], hb⟩
  case round =>
    clear hown hb
    obtain ⟨k, out, cr, hk, rfl, rfl, hc0, hc1, hown1, hol, how, hval, hb1⟩ := hrel
    have HOW := Lib.hid how
    clear how
    by_cases hkx : k < n
    · have hb3 := hb1.size
      have bx := words_getD HOW.out k
      have hol' : out.length = n := hol.out
      have hcell : wr.cell? ⟨gb, k, none⟩ = some (.int .u32 (out.getD k 0)) := by
        rw [hown1.cellAt k (by omega)]
        simp [List.getD, List.getElem?_eq_getElem (show k < out.length by omega)]
      have hfz : wr.frozen? ⟨gb, k, none⟩ = false := hown1.frozenAt k
      obtain ⟨x, ex⟩ : ∃ x, x = out.getD k 0 := ⟨_, rfl⟩
      rw [← ex] at hcell bx
      obtain ⟨bx0, bx1⟩ := bx
      obtain ⟨by0, by1⟩ := words_getD HWY.out k
      obtain ⟨y, ey⟩ : ∃ y, y = ys.getD k 0 := ⟨_, rfl⟩
      rw [← ey] at by0 by1
      have hT := Lib.hid (sub_step out ys (bval xs) _ k x y cr bx0 bx1 by0 by1 hc0 hc1 (by omega) ex ey hval.out rfl)
      have EY := Lib.hid ey
      clear ex ey
      have hst := hown1.stored k (.int .u32 ((x - y - cr) % 4294967296))
      have HBN := Lib.hid (hb1.grown hst.2 hb3 (fun q e => by cases e; exact hgb))
      have HON : Hid ((wr.setCell ⟨gb, k, none⟩ (.int .u32 ((x - y - cr) % 4294967296))).ownsRow w.heap.size 27 1 (.slice (some ⟨gb, 0, none⟩) n cap) n ((out.set k ((x - y - cr) % 4294967296)).map (Value.int .u32))) := by
        show World.ownsRow _ _ _ _ _ _ _
        rw [List.map_set]; exact hst.1
      have hw3 := Lib.hid (words_set HOW.out k ((x - y - cr) % 4294967296) (by omega) (by omega))
      have hl3 : Hid ((out.set k ((x - y - cr) % 4294967296)).length = n) := by show _ = _; rw [List.length_set]; exact hol'
      obtain ⟨br0, br1⟩ := borrow_range x y cr
      clear hst hown1 hol' 
      by_cases hky : k < ys.length
      · obtain ⟨b2, o2, rfl, -, hcy⟩ := (G.out.keep hb1).addr (by omega)
        have hy := hcy k hky
        clear hcy
        rw [← EY.out] at hy
        clear hb1
        go_wp2_with (first
          | (go_at_call 61; refine (sub32_any x y cr _ bx0 bx1 by0 by1 hc0 hc1).mono ?_; rintro e w' ⟨rfl, rfl⟩))
        go_roundw
        case rel => exact ⟨k + 1, out.set k ((x - y - cr) % 4294967296), borrowOf x y cr, by omega, by go_num, rfl, br0, br1, HON.out, hl3, hw3.out, hT, HBN.out⟩
        case measure => simp [intOf]; omega
      · have hy0 : y = 0 := by rw [EY.out]; simp [List.getD, List.getElem?_eq_none (show ys.length ≤ k by omega)]
        subst hy0
        clear hb1
        simp only [Int.sub_zero] at HON HBN hw3 hl3 hT
        go_wp2_with (first
          | (go_at_call 61; refine (sub32_any x 0 cr _ bx0 bx1 by0 by1 hc0 hc1).mono ?_; rintro e w' ⟨rfl, rfl⟩))
        go_roundw
        case rel => exact ⟨k + 1, out.set k ((x - cr) % 4294967296), borrowOf x 0 cr, by omega, by go_num, rfl, br0, br1, HON.out, hl3, hw3.out, hT, HBN.out⟩
        case measure => simp [intOf]; omega
    · obtain rfl : k = n := by omega
      have hol' := hol.out
      have hfin : bval out = bval xs - bval ys := by
        have h1 := hval.out
        rw [List.take_of_length_le (by omega)] at h1
        have h2 := bval_lt out HOW.out
        rw [hol'] at h2
        have h3 := HLE.out
        by_cases hcz : cr = 0
        · subst hcz
          simp at h1
          omega
        · have : cr = 1 := by omega
          subst this
          simp only [Int.toNat_one, Nat.mul_one] at h1
          omega
      have HF := Lib.hid hfin; clear hfin
      obtain ⟨ad', cap', he, hr⟩ := Gx.Rd.own (k := .u32) (xs := out) hown1 (wf_words HOW.out)
      have HR := Lib.hid hr
      clear hr hown1 HN hol
      subst hol'
      rw [he]
      clear he
      go_wp2_with (first
        | (go_at_call 26; refine (trimmed_any ad' cap' out _ HR.out (by omega)).mono ?_; rintro e w' ⟨rfl, rfl⟩))
      go_ret
      refine ⟨ad', cap', ?_, ?_, hb1⟩
      · rw [← HF.out]; rfl
      · rw [← HF.out]; exact HR.out.trim
end Go.Proofs.YtmieegcnfnoiiaaDoor
