/-
  The contract of big.Add. Condition: the slices have at most 2^30 words.
-/
import Derived.Test.YtmieegcnfnoiiaaDoorBigAdd
namespace Go.Proofs.YtmieegcnfnoiiaaDoor
open Go.RowKit Gx
set_option maxRecDepth 100000

set_option maxHeartbeats 1000000 in
theorem bigAdd_ge (ad bd : Option Addr) (ca cb : Nat) (xs ys : List Int) (w : World) (h : Rd .u32 w ad ca xs) (g : Rd .u32 w bd cb ys) (hl : xs.length ≤ 1073741824) (hyx : ys.length ≤ xs.length) :
    Calls Tryd.prog 41 #[.slice ad xs.length ca, .slice bd ys.length cb] w (WordsPost (bval xs + bval ys) w) := by
  have hwx := words_of_rd h
  have hwy := words_of_rd g
  have H := Lib.hid h
  have G := Lib.hid g
  have HWX := Lib.hid hwx
  have HWY := Lib.hid hwy
  clear h g hwx hwy
  have hlt : decide ((xs.length : Int) < (ys.length : Int)) = false := by simp; omega
  go_enter Tryd.func41, Tryd.ntmps41
  obtain ⟨i0, hi, hz0, hz1, hz2⟩ := info_parts Tryd.info_u32
  have HI := Lib.hid hi
  have HZ0 := Lib.hid hz0
  have HZ1 := Lib.hid hz1
  clear hi hz0 hz1
  go_wp2_with (first
    | (at_make; refine wpList_make_own _ rfl _ _ 29 rfl w.heap.size 27 i0 (.int .u32 0) 1 Tryd.underlying29 HI.out HZ0.out HZ1.out .i64 .i64 _ (xs.length + 1) rfl rfl (by omega) (by rw [hz2]; omega) (by unfold maxLen; omega) (Nat.le_refl _) ?_))
  intro w1 hown hg
  have hb : Below w.heap.size w w1 := Gx.grown_below hg (Nat.le_refl _) (by simp)
  clear hg
  obtain ⟨v0, hv0⟩ : ∃ v0, v0 = Value.slice (some ⟨w.heap.size, 0, none⟩) 0 (xs.length + 1) := ⟨_, rfl⟩
  rw [← hv0] at hown ⊢
  clear hv0
  go_wp2
  go_loopw [5, 6, 23] (fun v c i wr => ∃ (k : Nat) (out : List Int) (cr : Int), k ≤ xs.length ∧ i = .int .i64 k ∧ c = .int .u32 cr ∧ 0 ≤ cr ∧ cr ≤ 1 ∧
      wr.ownsRow w.heap.size 27 1 v k (out.map (Value.int .u32)) ∧ out.length = k ∧ Words out ∧ Hid (bval out + 4294967296 ^ k * cr.toNat = bval (xs.take k) + bval (ys.take k)) ∧ Below w.heap.size w wr)
    (fun _ _ i _ => xs.length - (intOf i).toNat)
  case atStart => exact ⟨0, [], 0, Nat.zero_le _, rfl, rfl, by omega, by omega, hown, rfl, fun x hx => by simp at hx, rfl, hb⟩
  case round =>
    obtain ⟨k, out, cr, hk, rfl, rfl, hc0, hc1, hown1, hol, how, hval, hb1⟩ := hrel
    have HOL := Lib.hid hol
    have HOW := Lib.hid how
    clear hol how hown hb
    have hsz := hb1.size
    by_cases hkx : k < xs.length
    · obtain ⟨b1, o1, rfl, -, hcx⟩ := (H.out.keep hb1).addr (by omega)
      have hx := hcx k hkx
      clear hcx
      have bx := words_getD HWX.out k
      obtain ⟨x, ex⟩ : ∃ x, x = xs.getD k 0 := ⟨_, rfl⟩
      rw [← ex] at hx bx
      have EX := Lib.hid ex; clear ex
      have by_ := words_getD HWY.out k
      obtain ⟨y, ey⟩ : ∃ y, y = ys.getD k 0 := ⟨_, rfl⟩
      rw [← ey] at by_
      have EY := Lib.hid ey; clear ey
      obtain ⟨bx0, bx1⟩ := bx
      obtain ⟨by0, by1⟩ := by_
      have hs0 : 0 ≤ (x + y + cr) % 4294967296 := by omega
      have hs1 : (x + y + cr) % 4294967296 ≤ 4294967295 := by omega
      have hq0 : 0 ≤ (x + y + cr) / 4294967296 := by omega
      have hq1 : (x + y + cr) / 4294967296 ≤ 1 := by omega
      have hT : Hid (bval (out ++ [(x + y + cr) % 4294967296]) + 4294967296 ^ (k + 1) * ((x + y + cr) / 4294967296).toNat = bval (xs.take (k + 1)) + bval (ys.take (k + 1))) := by
        show _ = _
        rw [bval_append, bval_take_succ, bval_take_succ, ← EX.out, ← EY.out, HOL.out, Nat.pow_succ]
        have hv := hval.out
        have e1 : x.toNat + y.toNat + cr.toNat = ((x + y + cr) % 4294967296).toNat + 4294967296 * ((x + y + cr) / 4294967296).toNat := by omega
        simp only [bval, Nat.mul_zero, Nat.add_zero]
        generalize 4294967296 ^ k = q at *
        have e2 : q * x.toNat + q * y.toNat + q * cr.toNat = q * ((x + y + cr) % 4294967296).toNat + q * 4294967296 * ((x + y + cr) / 4294967296).toNat := by
          rw [Nat.mul_assoc, ← Nat.mul_add, ← Nat.mul_add, ← Nat.mul_add, e1]
        omega
      by_cases hky : k < ys.length
      · obtain ⟨b2, o2, rfl, -, hcy⟩ := (G.out.keep hb1).addr (by omega)
        have hy := hcy k hky
        clear hcy
        rw [← EY.out] at hy
        go_wp2_with (first
          | (go_at_call 57; refine (add32_any x y cr _ bx0 bx1 by0 by1 hc0 hc1).mono ?_; rintro e w' ⟨rfl, rfl⟩)
          | (at_builtin; refine Gx.wpList_push wr rfl _ _ 29 rfl w.heap.size 27 (.int .u32 0) 1 4 Tryd.underlying29 Tryd.info_u32 rfl (by decide) _ _ _ [.int .u32 ((x + y + cr) % 4294967296)] _ rfl rfl (by exact hown1) rfl rfl ?a2 ?a3 ?a4 ?a5 ?_))
        case a2 => intro u hu; simp at hu; subst hu; rfl
        case a3 => omega
        case a4 => omega
        case a5 => omega
        intro v' w' hown2 hg2 _ _
        have hb2 : Below w.heap.size w w' := hb1.grown hg2 hsz (fun k e => (hown1.lt k e).1)
        have hown3 : w'.ownsRow w.heap.size 27 1 v' (k + 1) ((out ++ [(x + y + cr) % 4294967296]).map (Value.int .u32)) := by
          rw [List.map_append]; exact hown2
        have hW2 : Words (out ++ [(x + y + cr) % 4294967296]) := by
          intro z hz
          rcases List.mem_append.1 hz with hz | hz
          · exact HOW.out z hz
          · simp at hz; omega
        clear hown1 hown2 hg2
        go_wp2
        go_roundw
        case rel => exact ⟨k + 1, out ++ [(x + y + cr) % 4294967296], (x + y + cr) / 4294967296, by omega, by go_num, rfl, hq0, hq1, hown3, by simp [HOL.out], hW2, hT, hb2⟩
        case measure => simp [intOf]; omega
      · have hy0 : y = 0 := by rw [EY.out]; simp [List.getD, List.getElem?_eq_none (show ys.length ≤ k by omega)]
        subst hy0
        simp only [Int.add_zero] at hs0 hs1 hq0 hq1 hT
        go_wp2_with (first
          | (go_at_call 57; refine (add32_any x 0 cr _ bx0 bx1 by0 by1 hc0 hc1).mono ?_; rintro e w' ⟨rfl, rfl⟩)
          | (at_builtin; refine Gx.wpList_push wr rfl _ _ 29 rfl w.heap.size 27 (.int .u32 0) 1 4 Tryd.underlying29 Tryd.info_u32 rfl (by decide) _ _ _ [.int .u32 ((x + cr) % 4294967296)] _ rfl rfl (by exact hown1) rfl rfl ?b2 ?b3 ?b4 ?b5 ?_))
        case b2 => intro u hu; simp at hu; subst hu; rfl
        case b3 => omega
        case b4 => omega
        case b5 => omega
        intro v' w' hown2 hg2 _ _
        have hb2 : Below w.heap.size w w' := hb1.grown hg2 hsz (fun k e => (hown1.lt k e).1)
        have hown3 : w'.ownsRow w.heap.size 27 1 v' (k + 1) ((out ++ [(x + cr) % 4294967296]).map (Value.int .u32)) := by
          rw [List.map_append]; exact hown2
        have hW2 : Words (out ++ [(x + cr) % 4294967296]) := by
          intro z hz
          rcases List.mem_append.1 hz with hz | hz
          · exact HOW.out z hz
          · simp at hz; omega
        clear hown1 hown2 hg2
        go_wp2
        go_roundw
        case rel => exact ⟨k + 1, out ++ [(x + cr) % 4294967296], (x + cr) / 4294967296, by omega, by go_num, rfl, hq0, hq1, hown3, by simp [HOL.out], hW2, hT, hb2⟩
        case measure => simp [intOf]; omega
    · obtain rfl : k = xs.length := by omega
      go_wp2_with (first
        | (at_builtin; refine Gx.wpList_push wr rfl _ _ 29 rfl w.heap.size 27 (.int .u32 0) 1 4 Tryd.underlying29 Tryd.info_u32 rfl (by decide) _ _ _ [.int .u32 cr] _ rfl rfl (by exact hown1) rfl rfl ?d2 ?d3 ?d4 ?d5 ?_))
      case d2 => intro u hu; simp at hu; subst hu; rfl
      case d3 => omega
      case d4 => omega
      case d5 => omega
      intro v' w' hown2 hg2 _ _
      have hb2 : Below w.heap.size w w' := hb1.grown hg2 hsz (fun k e => (hown1.lt k e).1)
      have hW2 : Words (out ++ [cr]) := by
        intro z hz
        rcases List.mem_append.1 hz with hz | hz
        · exact HOW.out z hz
        · simp at hz; omega
      obtain ⟨ad', cap', rfl, hr⟩ := Gx.Rd.own (k := .u32) (xs := out ++ [cr]) (by simpa using hown2) (wf_words hW2)
      have hlen : (out ++ [cr]).length = xs.length + 1 := by simp [HOL.out]
      have hfin : bval (out ++ [cr]) = bval xs + bval ys := by
        rw [bval_append, HOL.out]
        have := hval.out
        rw [List.take_of_length_le (Nat.le_refl _), List.take_of_length_le (by omega)] at this
        simp only [bval, Nat.mul_zero, Nat.add_zero]
        omega
      have HF := Lib.hid hfin
      have HL := Lib.hid hlen
      have HR := Lib.hid hr
      clear hown1 hown2 hg2 hW2 hfin hlen hr
      generalize out ++ [cr] = zs at *
      go_wp2_with (first
        | (go_at_call 26; refine (trimmed_any ad' cap' zs _ HR.out (by rw [HL.out]; omega)).mono ?_; rintro e w' ⟨rfl, rfl⟩))
      go_ret
      refine ⟨ad', cap', ?_, ?_, hb2⟩
      · rw [← HF.out]; rfl
      · rw [← HF.out]; exact HR.out.trim


set_option maxHeartbeats 1000000 in
theorem bigAdd_lt (ad bd : Option Addr) (ca cb : Nat) (xs ys : List Int) (w : World) (h : Rd .u32 w ad ca xs) (g : Rd .u32 w bd cb ys) (hl : ys.length ≤ 1073741824) (hyx : xs.length < ys.length) :
    Calls Tryd.prog 41 #[.slice ad xs.length ca, .slice bd ys.length cb] w (WordsPost (bval xs + bval ys) w) := by
  have hwx := words_of_rd g
  have hwy := words_of_rd h
  have H := Lib.hid g
  have G := Lib.hid h
  have HWX := Lib.hid hwx
  have HWY := Lib.hid hwy
  clear h g hwx hwy
  have hlt : decide ((xs.length : Int) < (ys.length : Int)) = true := by simp; omega
  go_enter Tryd.func41, Tryd.ntmps41
  obtain ⟨i0, hi, hz0, hz1, hz2⟩ := info_parts Tryd.info_u32
  have HI := Lib.hid hi
  have HZ0 := Lib.hid hz0
  have HZ1 := Lib.hid hz1
  clear hi hz0 hz1
  go_wp2_with (first
    | (at_make; refine wpList_make_own _ rfl _ _ 29 rfl w.heap.size 27 i0 (.int .u32 0) 1 Tryd.underlying29 HI.out HZ0.out HZ1.out .i64 .i64 _ (ys.length + 1) rfl rfl (by omega) (by rw [hz2]; omega) (by unfold maxLen; omega) (Nat.le_refl _) ?_))
  intro w1 hown hg
  have hb : Below w.heap.size w w1 := Gx.grown_below hg (Nat.le_refl _) (by simp)
  clear hg
  obtain ⟨v0, hv0⟩ : ∃ v0, v0 = Value.slice (some ⟨w.heap.size, 0, none⟩) 0 (ys.length + 1) := ⟨_, rfl⟩
  rw [← hv0] at hown ⊢
  clear hv0
  go_wp2
  go_loopw [5, 6, 23] (fun v c i wr => ∃ (k : Nat) (out : List Int) (cr : Int), k ≤ ys.length ∧ i = .int .i64 k ∧ c = .int .u32 cr ∧ 0 ≤ cr ∧ cr ≤ 1 ∧
      wr.ownsRow w.heap.size 27 1 v k (out.map (Value.int .u32)) ∧ out.length = k ∧ Words out ∧ Hid (bval out + 4294967296 ^ k * cr.toNat = bval (ys.take k) + bval (xs.take k)) ∧ Below w.heap.size w wr)
    (fun _ _ i _ => ys.length - (intOf i).toNat)
  case atStart => exact ⟨0, [], 0, Nat.zero_le _, rfl, rfl, by omega, by omega, hown, rfl, fun x hx => by simp at hx, rfl, hb⟩
  case round =>
    obtain ⟨k, out, cr, hk, rfl, rfl, hc0, hc1, hown1, hol, how, hval, hb1⟩ := hrel
    have HOL := Lib.hid hol
    have HOW := Lib.hid how
    clear hol how hown hb
    have hsz := hb1.size
    by_cases hkx : k < ys.length
    · obtain ⟨b1, o1, rfl, -, hcx⟩ := (H.out.keep hb1).addr (by omega)
      have hx := hcx k hkx
      clear hcx
      have bx := words_getD HWX.out k
      obtain ⟨x, ex⟩ : ∃ x, x = ys.getD k 0 := ⟨_, rfl⟩
      rw [← ex] at hx bx
      have EX := Lib.hid ex; clear ex
      have by_ := words_getD HWY.out k
      obtain ⟨y, ey⟩ : ∃ y, y = xs.getD k 0 := ⟨_, rfl⟩
      rw [← ey] at by_
      have EY := Lib.hid ey; clear ey
      obtain ⟨bx0, bx1⟩ := bx
      obtain ⟨by0, by1⟩ := by_
      have hs0 : 0 ≤ (x + y + cr) % 4294967296 := by omega
      have hs1 : (x + y + cr) % 4294967296 ≤ 4294967295 := by omega
      have hq0 : 0 ≤ (x + y + cr) / 4294967296 := by omega
      have hq1 : (x + y + cr) / 4294967296 ≤ 1 := by omega
      have hT : Hid (bval (out ++ [(x + y + cr) % 4294967296]) + 4294967296 ^ (k + 1) * ((x + y + cr) / 4294967296).toNat = bval (ys.take (k + 1)) + bval (xs.take (k + 1))) := by
        show _ = _
        rw [bval_append, bval_take_succ, bval_take_succ, ← EX.out, ← EY.out, HOL.out, Nat.pow_succ]
        have hv := hval.out
        have e1 : x.toNat + y.toNat + cr.toNat = ((x + y + cr) % 4294967296).toNat + 4294967296 * ((x + y + cr) / 4294967296).toNat := by omega
        simp only [bval, Nat.mul_zero, Nat.add_zero]
        generalize 4294967296 ^ k = q at *
        have e2 : q * x.toNat + q * y.toNat + q * cr.toNat = q * ((x + y + cr) % 4294967296).toNat + q * 4294967296 * ((x + y + cr) / 4294967296).toNat := by
          rw [Nat.mul_assoc, ← Nat.mul_add, ← Nat.mul_add, ← Nat.mul_add, e1]
        omega
      by_cases hky : k < xs.length
      · obtain ⟨b2, o2, rfl, -, hcy⟩ := (G.out.keep hb1).addr (by omega)
        have hy := hcy k hky
        clear hcy
        rw [← EY.out] at hy
        go_wp2_with (first
          | (go_at_call 57; refine (add32_any x y cr _ bx0 bx1 by0 by1 hc0 hc1).mono ?_; rintro e w' ⟨rfl, rfl⟩)
          | (at_builtin; refine Gx.wpList_push wr rfl _ _ 29 rfl w.heap.size 27 (.int .u32 0) 1 4 Tryd.underlying29 Tryd.info_u32 rfl (by decide) _ _ _ [.int .u32 ((x + y + cr) % 4294967296)] _ rfl rfl (by exact hown1) rfl rfl ?a2 ?a3 ?a4 ?a5 ?_))
        case a2 => intro u hu; simp at hu; subst hu; rfl
        case a3 => omega
        case a4 => omega
        case a5 => omega
        intro v' w' hown2 hg2 _ _
        have hb2 : Below w.heap.size w w' := hb1.grown hg2 hsz (fun k e => (hown1.lt k e).1)
        have hown3 : w'.ownsRow w.heap.size 27 1 v' (k + 1) ((out ++ [(x + y + cr) % 4294967296]).map (Value.int .u32)) := by
          rw [List.map_append]; exact hown2
        have hW2 : Words (out ++ [(x + y + cr) % 4294967296]) := by
          intro z hz
          rcases List.mem_append.1 hz with hz | hz
          · exact HOW.out z hz
          · simp at hz; omega
        clear hown1 hown2 hg2
        go_wp2
        go_roundw
        case rel => exact ⟨k + 1, out ++ [(x + y + cr) % 4294967296], (x + y + cr) / 4294967296, by omega, by go_num, rfl, hq0, hq1, hown3, by simp [HOL.out], hW2, hT, hb2⟩
        case measure => simp [intOf]; omega
      · have hy0 : y = 0 := by rw [EY.out]; simp [List.getD, List.getElem?_eq_none (show xs.length ≤ k by omega)]
        subst hy0
        simp only [Int.add_zero] at hs0 hs1 hq0 hq1 hT
        go_wp2_with (first
          | (go_at_call 57; refine (add32_any x 0 cr _ bx0 bx1 by0 by1 hc0 hc1).mono ?_; rintro e w' ⟨rfl, rfl⟩)
          | (at_builtin; refine Gx.wpList_push wr rfl _ _ 29 rfl w.heap.size 27 (.int .u32 0) 1 4 Tryd.underlying29 Tryd.info_u32 rfl (by decide) _ _ _ [.int .u32 ((x + cr) % 4294967296)] _ rfl rfl (by exact hown1) rfl rfl ?b2 ?b3 ?b4 ?b5 ?_))
        case b2 => intro u hu; simp at hu; subst hu; rfl
        case b3 => omega
        case b4 => omega
        case b5 => omega
        intro v' w' hown2 hg2 _ _
        have hb2 : Below w.heap.size w w' := hb1.grown hg2 hsz (fun k e => (hown1.lt k e).1)
        have hown3 : w'.ownsRow w.heap.size 27 1 v' (k + 1) ((out ++ [(x + cr) % 4294967296]).map (Value.int .u32)) := by
          rw [List.map_append]; exact hown2
        have hW2 : Words (out ++ [(x + cr) % 4294967296]) := by
          intro z hz
          rcases List.mem_append.1 hz with hz | hz
          · exact HOW.out z hz
          · simp at hz; omega
        clear hown1 hown2 hg2
        go_wp2
        go_roundw
        case rel => exact ⟨k + 1, out ++ [(x + cr) % 4294967296], (x + cr) / 4294967296, by omega, by go_num, rfl, hq0, hq1, hown3, by simp [HOL.out], hW2, hT, hb2⟩
        case measure => simp [intOf]; omega
    · obtain rfl : k = ys.length := by omega
      go_wp2_with (first
        | (at_builtin; refine Gx.wpList_push wr rfl _ _ 29 rfl w.heap.size 27 (.int .u32 0) 1 4 Tryd.underlying29 Tryd.info_u32 rfl (by decide) _ _ _ [.int .u32 cr] _ rfl rfl (by exact hown1) rfl rfl ?d2 ?d3 ?d4 ?d5 ?_))
      case d2 => intro u hu; simp at hu; subst hu; rfl
      case d3 => omega
      case d4 => omega
      case d5 => omega
      intro v' w' hown2 hg2 _ _
      have hb2 : Below w.heap.size w w' := hb1.grown hg2 hsz (fun k e => (hown1.lt k e).1)
      have hW2 : Words (out ++ [cr]) := by
        intro z hz
        rcases List.mem_append.1 hz with hz | hz
        · exact HOW.out z hz
        · simp at hz; omega
      obtain ⟨ad', cap', rfl, hr⟩ := Gx.Rd.own (k := .u32) (xs := out ++ [cr]) (by simpa using hown2) (wf_words hW2)
      have hlen : (out ++ [cr]).length = ys.length + 1 := by simp [HOL.out]
      have hfin : bval (out ++ [cr]) = bval xs + bval ys := by
        rw [bval_append, HOL.out]
        have := hval.out
        rw [List.take_of_length_le (Nat.le_refl _), List.take_of_length_le (by omega)] at this
        simp only [bval, Nat.mul_zero, Nat.add_zero]
        omega
      have HF := Lib.hid hfin
      have HL := Lib.hid hlen
      have HR := Lib.hid hr
      clear hown1 hown2 hg2 hW2 hfin hlen hr
      generalize out ++ [cr] = zs at *
      go_wp2_with (first
        | (go_at_call 26; refine (trimmed_any ad' cap' zs _ HR.out (by rw [HL.out]; omega)).mono ?_; rintro e w' ⟨rfl, rfl⟩))
      go_ret
      refine ⟨ad', cap', ?_, ?_, hb2⟩
      · rw [← HF.out]; rfl
      · rw [← HF.out]; exact HR.out.trim


theorem bigAdd_any (ad bd : Option Addr) (ca cb : Nat) (xs ys : List Int) (w : World) (h : Rd .u32 w ad ca xs) (g : Rd .u32 w bd cb ys) (hl : xs.length ≤ 1073741824) (hl2 : ys.length ≤ 1073741824) :
    Calls Tryd.prog 41 #[.slice ad xs.length ca, .slice bd ys.length cb] w (WordsPost (bval xs + bval ys) w) := by
  rcases Nat.lt_or_ge xs.length ys.length with hc | hc
  · exact bigAdd_lt ad bd ca cb xs ys w h g hl2 hc
  · exact bigAdd_ge ad bd ca cb xs ys w h g hl hc
end Go.Proofs.YtmieegcnfnoiiaaDoor
