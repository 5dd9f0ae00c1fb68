/-
  The contract of big.Add. Condition: the slices have at most 2^30 words.
  The contract of big.left: a number by a power of 2, less than a word. Conditions: at most 2^20 words, the last is no nought.
  The contract of big.left, with whose memory it is. Conditions: at most 2^20 words, the last is no nought.
  The contract of big.right: a number without its last bits, less than a word of them. Conditions: at most 2^20 words.
-/
import Derived.Test.YtldhmfkojaekfaaGreatDoorMeanGoodAllPartH
set_option linter.unusedVariables false
namespace Go.Proofs.YtldhmfkojaekfaaGreatDoor
open Go.RowKit Gx
set_option maxRecDepth 100000
set_option maxHeartbeats 1000000 in
theorem bigAdd_ge (ad bd : Option Addr) (ca cb : Nat) (xs ys : List Int) (w : World) (h : Rd .u32 w ad ca xs) (g : Rd .u32 w bd cb ys) (hl : xs.length ≤ 1073741824) (hyx : ys.length ≤ xs.length) :
    Calls Tryz.prog 163 #[.slice ad xs.length ca, .slice bd ys.length cb] w (WordsPost (bval xs + bval ys) w) := by
  have hwx := words_of_rd h
  have hwy := words_of_rd g
  have H := Lib.hid h
  have G := Lib.hid g
  have HWX := Lib.hid hwx
  have HWY := Lib.hid hwy
  clear h g hwx hwy
  have hlt : decide ((xs.length : Int) < (ys.length : Int)) = false := by simp; omega
  go_enter Tryz.func163, Tryz.ntmps163
  obtain ⟨i0, hi, hz0, hz1, hz2⟩ := info_parts Tryz.info_u32
  have HI := Lib.hid hi
  have HZ0 := Lib.hid hz0
  have HZ1 := Lib.hid hz1
  clear hi hz0 hz1
  go_wp2_with (first
    | (at_make; refine wpList_make_own _ rfl _ _ 169 rfl w.heap.size 145 i0 (.int .u32 0) 1 Tryz.underlying169 HI.out HZ0.out HZ1.out .i64 .i64 _ (xs.length + 1) rfl rfl (by omega) (by rw [hz2]; omega) (by unfold maxLen; omega) (Nat.le_refl _) ?_))
  intro w1 hown hg
  have hb : Below w.heap.size w w1 := Gx.grown_below hg (Nat.le_refl _) (by simp)
  clear hg
  obtain ⟨v0, hv0⟩ : ∃ v0, v0 = Value.slice (some ⟨w.heap.size, 0, none⟩) 0 (xs.length + 1) := ⟨_, rfl⟩
  rw [← hv0] at hown ⊢
  clear hv0
  go_wp2
  go_loopw [5, 6, 23] (fun v c i wr => ∃ (k : Nat) (out : List Int) (cr : Int), k ≤ xs.length ∧ i = .int .i64 k ∧ c = .int .u32 cr ∧ 0 ≤ cr ∧ cr ≤ 1 ∧
      wr.ownsRow w.heap.size 145 1 v k (out.map (Value.int .u32)) ∧ out.length = k ∧ Words out ∧ Hid (bval out + 4294967296 ^ k * cr.toNat = bval (xs.take k) + bval (ys.take k)) ∧ Below w.heap.size w wr)
    (fun _ _ i _ => xs.length - (intOf i).toNat)
  case atStart => exact ⟨0, [], 0, Nat.zero_le _, rfl, rfl, by omega, by omega, hown, rfl, fun x hx => by simp at hx, rfl, hb⟩
  case round =>
    obtain ⟨k, out, cr, hk, rfl, rfl, hc0, hc1, hown1, hol, how, hval, hb1⟩ := hrel
    have HOL := Lib.hid hol
    have HOW := Lib.hid how
    clear hol how hown hb
    have hsz := hb1.size
    by_cases hkx : k < xs.length
    · obtain ⟨b1, o1, rfl, -, hcx⟩ := (H.out.keep hb1).addr (by omega)
      have hx := hcx k hkx
      clear hcx
      have bx := words_getD HWX.out k
      obtain ⟨x, ex⟩ : ∃ x, x = xs.getD k 0 := ⟨_, rfl⟩
      rw [← ex] at hx bx
      have EX := Lib.hid ex; clear ex
      have by_ := words_getD HWY.out k
      obtain ⟨y, ey⟩ : ∃ y, y = ys.getD k 0 := ⟨_, rfl⟩
      rw [← ey] at by_
      have EY := Lib.hid ey; clear ey
      obtain ⟨bx0, bx1⟩ := bx
      obtain ⟨by0, by1⟩ := by_
      have hs0 : 0 ≤ (x + y + cr) % 4294967296 := by omega
      have hs1 : (x + y + cr) % 4294967296 ≤ 4294967295 := by omega
      have hq0 : 0 ≤ (x + y + cr) / 4294967296 := by omega
      have hq1 : (x + y + cr) / 4294967296 ≤ 1 := by omega
      have hT : Hid (bval (out ++ [(x + y + cr) % 4294967296]) + 4294967296 ^ (k + 1) * ((x + y + cr) / 4294967296).toNat = bval (xs.take (k + 1)) + bval (ys.take (k + 1))) := by
        show _ = _
        rw [bval_append, bval_take_succ, bval_take_succ, ← EX.out, ← EY.out, HOL.out, Nat.pow_succ]
        have hv := hval.out
        have e1 : x.toNat + y.toNat + cr.toNat = ((x + y + cr) % 4294967296).toNat + 4294967296 * ((x + y + cr) / 4294967296).toNat := by omega
        simp only [bval, Nat.mul_zero, Nat.add_zero]
        generalize 4294967296 ^ k = q at *
        have e2 : q * x.toNat + q * y.toNat + q * cr.toNat = q * ((x + y + cr) % 4294967296).toNat + q * 4294967296 * ((x + y + cr) / 4294967296).toNat := by
          rw [Nat.mul_assoc, ← Nat.mul_add, ← Nat.mul_add, ← Nat.mul_add, e1]
        omega
      by_cases hky : k < ys.length
      · obtain ⟨b2, o2, rfl, -, hcy⟩ := (G.out.keep hb1).addr (by omega)
        have hy := hcy k hky
        clear hcy
        rw [← EY.out] at hy
        go_wp2_with (first
          | (go_at_call 182; refine (add32_any x y cr _ bx0 bx1 by0 by1 hc0 hc1).mono ?_; rintro e w' ⟨rfl, rfl⟩)
          | (at_builtin; refine Gx.wpList_push wr rfl _ _ 169 rfl w.heap.size 145 (.int .u32 0) 1 4 Tryz.underlying169 Tryz.info_u32 rfl (by decide) _ _ _ [.int .u32 ((x + y + cr) % 4294967296)] _ rfl rfl (by exact hown1) rfl rfl ?a2 ?a3 ?a4 ?a5 ?_))
        case a2 => intro u hu; simp at hu; subst hu; rfl
        case a3 => omega
        case a4 => omega
        case a5 => omega
        intro v' w' hown2 hg2 _ _
        have hb2 : Below w.heap.size w w' := hb1.grown hg2 hsz (fun k e => (hown1.lt k e).1)
        have hown3 : w'.ownsRow w.heap.size 145 1 v' (k + 1) ((out ++ [(x + y + cr) % 4294967296]).map (Value.int .u32)) := by
          rw [List.map_append]; exact hown2
        have hW2 : Words (out ++ [(x + y + cr) % 4294967296]) := by
          intro z hz
          rcases List.mem_append.1 hz with hz | hz
          · exact HOW.out z hz
          · simp at hz; omega
        clear hown1 hown2 hg2
        go_wp2
        go_roundw
        case rel => exact ⟨k + 1, out ++ [(x + y + cr) % 4294967296], (x + y + cr) / 4294967296, by omega, by go_num, rfl, hq0, hq1, hown3, by simp [HOL.out], hW2, hT, hb2⟩
        case measure => simp [intOf]; omega
      · have hy0 : y = 0 := by rw [EY.out]; simp [List.getD, List.getElem?_eq_none (show ys.length ≤ k by omega)]
        subst hy0
        simp only [Int.add_zero] at hs0 hs1 hq0 hq1 hT
        go_wp2_with (first
          | (go_at_call 182; refine (add32_any x 0 cr _ bx0 bx1 by0 by1 hc0 hc1).mono ?_; rintro e w' ⟨rfl, rfl⟩)
          | (at_builtin; refine Gx.wpList_push wr rfl _ _ 169 rfl w.heap.size 145 (.int .u32 0) 1 4 Tryz.underlying169 Tryz.info_u32 rfl (by decide) _ _ _ [.int .u32 ((x + cr) % 4294967296)] _ rfl rfl (by exact hown1) rfl rfl ?b2 ?b3 ?b4 ?b5 ?_))
        case b2 => intro u hu; simp at hu; subst hu; rfl
        case b3 => omega
        case b4 => omega
        case b5 => omega
        intro v' w' hown2 hg2 _ _
        have hb2 : Below w.heap.size w w' := hb1.grown hg2 hsz (fun k e => (hown1.lt k e).1)
        have hown3 : w'.ownsRow w.heap.size 145 1 v' (k + 1) ((out ++ [(x + cr) % 4294967296]).map (Value.int .u32)) := by
          rw [List.map_append]; exact hown2
        have hW2 : Words (out ++ [(x + cr) % 4294967296]) := by
          intro z hz
          rcases List.mem_append.1 hz with hz | hz
          · exact HOW.out z hz
          · simp at hz; omega
        clear hown1 hown2 hg2
        go_wp2
        go_roundw
        case rel => exact ⟨k + 1, out ++ [(x + cr) % 4294967296], (x + cr) / 4294967296, by omega, by go_num, rfl, hq0, hq1, hown3, by simp [HOL.out], hW2, hT, hb2⟩
        case measure => simp [intOf]; omega
    · obtain rfl : k = xs.length := by omega
      go_wp2_with (first
        | (at_builtin; refine Gx.wpList_push wr rfl _ _ 169 rfl w.heap.size 145 (.int .u32 0) 1 4 Tryz.underlying169 Tryz.info_u32 rfl (by decide) _ _ _ [.int .u32 cr] _ rfl rfl (by exact hown1) rfl rfl ?d2 ?d3 ?d4 ?d5 ?_))
      case d2 => intro u hu; simp at hu; subst hu; rfl
      case d3 => omega
      case d4 => omega
      case d5 => omega
      intro v' w' hown2 hg2 _ _
      have hb2 : Below w.heap.size w w' := hb1.grown hg2 hsz (fun k e => (hown1.lt k e).1)
      have hW2 : Words (out ++ [cr]) := by
        intro z hz
        rcases List.mem_append.1 hz with hz | hz
        · exact HOW.out z hz
        · simp at hz; omega
      obtain ⟨ad', cap', rfl, hr⟩ := Gx.Rd.own (k := .u32) (xs := out ++ [cr]) (by simpa using hown2) (wf_words hW2)
      have hlen : (out ++ [cr]).length = xs.length + 1 := by simp [HOL.out]
      have hfin : bval (out ++ [cr]) = bval xs + bval ys := by
        rw [bval_append, HOL.out]
        have := hval.out
        rw [List.take_of_length_le (Nat.le_refl _), List.take_of_length_le (by omega)] at this
        simp only [bval, Nat.mul_zero, Nat.add_zero]
        omega
      have HF := Lib.hid hfin
      have HL := Lib.hid hlen
      have HR := Lib.hid hr
      clear hown1 hown2 hg2 hW2 hfin hlen hr
      generalize out ++ [cr] = zs at *
      go_wp2_with (first
        | (go_at_call 157; refine (trimmed_any ad' cap' zs _ HR.out (by rw [HL.out]; omega)).mono ?_; rintro e w' ⟨rfl, rfl⟩))
      go_ret
      refine ⟨ad', cap', ?_, ?_, hb2⟩
      · rw [← HF.out]; rfl
      · rw [← HF.out]; exact HR.out.trim


set_option maxHeartbeats 1000000 in
theorem bigAdd_lt (ad bd : Option Addr) (ca cb : Nat) (xs ys : List Int) (w : World) (h : Rd .u32 w ad ca xs) (g : Rd .u32 w bd cb ys) (hl : ys.length ≤ 1073741824) (hyx : xs.length < ys.length) :
    Calls Tryz.prog 163 #[.slice ad xs.length ca, .slice bd ys.length cb] w (WordsPost (bval xs + bval ys) w) := by
  have hwx := words_of_rd g
  have hwy := words_of_rd h
  have H := Lib.hid g
  have G := Lib.hid h
  have HWX := Lib.hid hwx
  have HWY := Lib.hid hwy
  clear h g hwx hwy
  have hlt : decide ((xs.length : Int) < (ys.length : Int)) = true := by simp; omega
  go_enter Tryz.func163, Tryz.ntmps163
  obtain ⟨i0, hi, hz0, hz1, hz2⟩ := info_parts Tryz.info_u32
  have HI := Lib.hid hi
  have HZ0 := Lib.hid hz0
  have HZ1 := Lib.hid hz1
  clear hi hz0 hz1
  go_wp2_with (first
    | (at_make; refine wpList_make_own _ rfl _ _ 169 rfl w.heap.size 145 i0 (.int .u32 0) 1 Tryz.underlying169 HI.out HZ0.out HZ1.out .i64 .i64 _ (ys.length + 1) rfl rfl (by omega) (by rw [hz2]; omega) (by unfold maxLen; omega) (Nat.le_refl _) ?_))
  intro w1 hown hg
  have hb : Below w.heap.size w w1 := Gx.grown_below hg (Nat.le_refl _) (by simp)
  clear hg
  obtain ⟨v0, hv0⟩ : ∃ v0, v0 = Value.slice (some ⟨w.heap.size, 0, none⟩) 0 (ys.length + 1) := ⟨_, rfl⟩
  rw [← hv0] at hown ⊢
  clear hv0
  go_wp2
  go_loopw [5, 6, 23] (fun v c i wr => ∃ (k : Nat) (out : List Int) (cr : Int), k ≤ ys.length ∧ i = .int .i64 k ∧ c = .int .u32 cr ∧ 0 ≤ cr ∧ cr ≤ 1 ∧
      wr.ownsRow w.heap.size 145 1 v k (out.map (Value.int .u32)) ∧ out.length = k ∧ Words out ∧ Hid (bval out + 4294967296 ^ k * cr.toNat = bval (ys.take k) + bval (xs.take k)) ∧ Below w.heap.size w wr)
    (fun _ _ i _ => ys.length - (intOf i).toNat)
  case atStart => exact ⟨0, [], 0, Nat.zero_le _, rfl, rfl, by omega, by omega, hown, rfl, fun x hx => by simp at hx, rfl, hb⟩
  case round =>
    obtain ⟨k, out, cr, hk, rfl, rfl, hc0, hc1, hown1, hol, how, hval, hb1⟩ := hrel
    have HOL := Lib.hid hol
    have HOW := Lib.hid how
    clear hol how hown hb
    have hsz := hb1.size
    by_cases hkx : k < ys.length
    · obtain ⟨b1, o1, rfl, -, hcx⟩ := (H.out.keep hb1).addr (by omega)
      have hx := hcx k hkx
      clear hcx
      have bx := words_getD HWX.out k
      obtain ⟨x, ex⟩ : ∃ x, x = ys.getD k 0 := ⟨_, rfl⟩
      rw [← ex] at hx bx
      have EX := Lib.hid ex; clear ex
      have by_ := words_getD HWY.out k
      obtain ⟨y, ey⟩ : ∃ y, y = xs.getD k 0 := ⟨_, rfl⟩
      rw [← ey] at by_
      have EY := Lib.hid ey; clear ey
      obtain ⟨bx0, bx1⟩ := bx
      obtain ⟨by0, by1⟩ := by_
      have hs0 : 0 ≤ (x + y + cr) % 4294967296 := by omega
      have hs1 : (x + y + cr) % 4294967296 ≤ 4294967295 := by omega
      have hq0 : 0 ≤ (x + y + cr) / 4294967296 := by omega
      have hq1 : (x + y + cr) / 4294967296 ≤ 1 := by omega
      have hT : Hid (bval (out ++ [(x + y + cr) % 4294967296]) + 4294967296 ^ (k + 1) * ((x + y + cr) / 4294967296).toNat = bval (ys.take (k + 1)) + bval (xs.take (k + 1))) := by
        show _ = _
        rw [bval_append, bval_take_succ, bval_take_succ, ← EX.out, ← EY.out, HOL.out, Nat.pow_succ]
        have hv := hval.out
        have e1 : x.toNat + y.toNat + cr.toNat = ((x + y + cr) % 4294967296).toNat + 4294967296 * ((x + y + cr) / 4294967296).toNat := by omega
        simp only [bval, Nat.mul_zero, Nat.add_zero]
        generalize 4294967296 ^ k = q at *
        have e2 : q * x.toNat + q * y.toNat + q * cr.toNat = q * ((x + y + cr) % 4294967296).toNat + q * 4294967296 * ((x + y + cr) / 4294967296).toNat := by
          rw [Nat.mul_assoc, ← Nat.mul_add, ← Nat.mul_add, ← Nat.mul_add, e1]
        omega
      by_cases hky : k < xs.length
      · obtain ⟨b2, o2, rfl, -, hcy⟩ := (G.out.keep hb1).addr (by omega)
        have hy := hcy k hky
        clear hcy
        rw [← EY.out] at hy
        go_wp2_with (first
          | (go_at_call 182; refine (add32_any x y cr _ bx0 bx1 by0 by1 hc0 hc1).mono ?_; rintro e w' ⟨rfl, rfl⟩)
          | (at_builtin; refine Gx.wpList_push wr rfl _ _ 169 rfl w.heap.size 145 (.int .u32 0) 1 4 Tryz.underlying169 Tryz.info_u32 rfl (by decide) _ _ _ [.int .u32 ((x + y + cr) % 4294967296)] _ rfl rfl (by exact hown1) rfl rfl ?a2 ?a3 ?a4 ?a5 ?_))
        case a2 => intro u hu; simp at hu; subst hu; rfl
        case a3 => omega
        case a4 => omega
        case a5 => omega
        intro v' w' hown2 hg2 _ _
        have hb2 : Below w.heap.size w w' := hb1.grown hg2 hsz (fun k e => (hown1.lt k e).1)
        have hown3 : w'.ownsRow w.heap.size 145 1 v' (k + 1) ((out ++ [(x + y + cr) % 4294967296]).map (Value.int .u32)) := by
          rw [List.map_append]; exact hown2
        have hW2 : Words (out ++ [(x + y + cr) % 4294967296]) := by
          intro z hz
          rcases List.mem_append.1 hz with hz | hz
          · exact HOW.out z hz
          · simp at hz; omega
        clear hown1 hown2 hg2
        go_wp2
        go_roundw
        case rel => exact ⟨k + 1, out ++ [(x + y + cr) % 4294967296], (x + y + cr) / 4294967296, by omega, by go_num, rfl, hq0, hq1, hown3, by simp [HOL.out], hW2, hT, hb2⟩
        case measure => simp [intOf]; omega
      · have hy0 : y = 0 := by rw [EY.out]; simp [List.getD, List.getElem?_eq_none (show xs.length ≤ k by omega)]
        subst hy0
        simp only [Int.add_zero] at hs0 hs1 hq0 hq1 hT
        go_wp2_with (first
          | (go_at_call 182; refine (add32_any x 0 cr _ bx0 bx1 by0 by1 hc0 hc1).mono ?_; rintro e w' ⟨rfl, rfl⟩)
          | (at_builtin; refine Gx.wpList_push wr rfl _ _ 169 rfl w.heap.size 145 (.int .u32 0) 1 4 Tryz.underlying169 Tryz.info_u32 rfl (by decide) _ _ _ [.int .u32 ((x + cr) % 4294967296)] _ rfl rfl (by exact hown1) rfl rfl ?b2 ?b3 ?b4 ?b5 ?_))
        case b2 => intro u hu; simp at hu; subst hu; rfl
        case b3 => omega
        case b4 => omega
        case b5 => omega
        intro v' w' hown2 hg2 _ _
        have hb2 : Below w.heap.size w w' := hb1.grown hg2 hsz (fun k e => (hown1.lt k e).1)
        have hown3 : w'.ownsRow w.heap.size 145 1 v' (k + 1) ((out ++ [(x + cr) % 4294967296]).map (Value.int .u32)) := by
          rw [List.map_append]; exact hown2
        have hW2 : Words (out ++ [(x + cr) % 4294967296]) := by
          intro z hz
          rcases List.mem_append.1 hz with hz | hz
          · exact HOW.out z hz
          · simp at hz; omega
        clear hown1 hown2 hg2
        go_wp2
        go_roundw
        case rel => exact ⟨k + 1, out ++ [(x + cr) % 4294967296], (x + cr) / 4294967296, by omega, by go_num, rfl, hq0, hq1, hown3, by simp [HOL.out], hW2, hT, hb2⟩
        case measure => simp [intOf]; omega
    · obtain rfl : k = ys.length := by omega
      go_wp2_with (first
        | (at_builtin; refine Gx.wpList_push wr rfl _ _ 169 rfl w.heap.size 145 (.int .u32 0) 1 4 Tryz.underlying169 Tryz.info_u32 rfl (by decide) _ _ _ [.int .u32 cr] _ rfl rfl (by exact hown1) rfl rfl ?d2 ?d3 ?d4 ?d5 ?_))
      case d2 => intro u hu; simp at hu; subst hu; rfl
      case d3 => omega
      case d4 => omega
      case d5 => omega
      intro v' w' hown2 hg2 _ _
      have hb2 : Below w.heap.size w w' := hb1.grown hg2 hsz (fun k e => (hown1.lt k e).1)
      have hW2 : Words (out ++ [cr]) := by
        intro z hz
        rcases List.mem_append.1 hz with hz | hz
        · exact HOW.out z hz
        · simp at hz; omega
      obtain ⟨ad', cap', rfl, hr⟩ := Gx.Rd.own (k := .u32) (xs := out ++ [cr]) (by simpa using hown2) (wf_words hW2)
      have hlen : (out ++ [cr]).length = ys.length + 1 := by simp [HOL.out]
      have hfin : bval (out ++ [cr]) = bval xs + bval ys := by
        rw [bval_append, HOL.out]
        have := hval.out
        rw [List.take_of_length_le (Nat.le_refl _), List.take_of_length_le (by omega)] at this
        simp only [bval, Nat.mul_zero, Nat.add_zero]
        omega
      have HF := Lib.hid hfin
      have HL := Lib.hid hlen
      have HR := Lib.hid hr
      clear hown1 hown2 hg2 hW2 hfin hlen hr
      generalize out ++ [cr] = zs at *
      go_wp2_with (first
        | (go_at_call 157; refine (trimmed_any ad' cap' zs _ HR.out (by rw [HL.out]; omega)).mono ?_; rintro e w' ⟨rfl, rfl⟩))
      go_ret
      refine ⟨ad', cap', ?_, ?_, hb2⟩
      · rw [← HF.out]; rfl
      · rw [← HF.out]; exact HR.out.trim


theorem bigAdd_any (ad bd : Option Addr) (ca cb : Nat) (xs ys : List Int) (w : World) (h : Rd .u32 w ad ca xs) (g : Rd .u32 w bd cb ys) (hl : xs.length ≤ 1073741824) (hl2 : ys.length ≤ 1073741824) :
    Calls Tryz.prog 163 #[.slice ad xs.length ca, .slice bd ys.length cb] w (WordsPost (bval xs + bval ys) w) := by
  rcases Nat.lt_or_ge xs.length ys.length with hc | hc
  · exact bigAdd_lt ad bd ca cb xs ys w h g hl2 hc
  · exact bigAdd_ge ad bd ca cb xs ys w h g hl hc
end Go.Proofs.YtldhmfkojaekfaaGreatDoor
namespace Go.Proofs.YtldhmfkojaekfaaGreatDoor
open Go.RowKit Gx
set_option maxRecDepth 100000
theorem canon_of_big (a : List Int) (h : Words a) (hb : 4294967296 ^ (a.length - 1) ≤ bval a) : canon (bval a) = a := by
  refine canon_bval a h ?_
  intro x hx h0
  subst h0
  obtain ⟨b, rfl⟩ := List.getLast?_eq_some_iff.1 hx
  rw [bval_append] at hb
  have := bval_lt b (fun y hy => h y (by simp [hy]))
  simp [bval] at hb
  omega

set_option maxHeartbeats 1000000 in
theorem bigLeft_any (ad : Option Addr) (ca v n : Nat) (w : World) (h : Rd .u32 w ad ca (canon v)) (hl : (canon v).length ≤ 1048576) (hv : v ≠ 0) (hn : n ≤ 31) :
    Calls Tryz.prog 158 #[.slice ad (canon v).length ca, .int .i64 n] w (WordsPost (v * 2 ^ n) w) := by
  obtain ⟨xs, hxs⟩ : ∃ xs, xs = canon v := ⟨_, rfl⟩
  have hbv : bval xs = v := by rw [hxs, bval_canon]
  have hgt := canon_len_gt v hv
  rw [← hxs] at h hl hgt ⊢
  have hwx := words_of_rd h
  have H := Lib.hid h
  have HWX := Lib.hid hwx
  have HBV := Lib.hid hbv
  have HGT := Lib.hid hgt
  clear h hwx hxs hbv hgt
  go_enter Tryz.func158, Tryz.ntmps158
  obtain ⟨i0, hi, hz0, hz1, hz2⟩ := info_parts Tryz.info_u32
  have HI := Lib.hid hi
  have HZ0 := Lib.hid hz0
  have HZ1 := Lib.hid hz1
  clear hi hz0 hz1
  go_wp2_with (first
    | (at_make; refine wpList_make_own _ rfl _ _ 169 rfl w.heap.size 145 i0 (.int .u32 0) 1 Tryz.underlying169 HI.out HZ0.out HZ1.out .i64 .i64 _ (xs.length + 2) rfl rfl (by omega) (by rw [hz2]; omega) (by unfold maxLen; omega) (Nat.le_refl _) ?_))
  intro w1 hown hg
  have hb : Below w.heap.size w w1 := Gx.grown_below hg (Nat.le_refl _) (by simp)
  clear hg
  obtain ⟨v0, hv0⟩ : ∃ v0, v0 = Value.slice (some ⟨w.heap.size, 0, none⟩) 0 (xs.length + 2) := ⟨_, rfl⟩
  rw [← hv0] at hown ⊢
  clear hv0
  have a1 : IntKind.u64.wrap (n : Int) = (n : Int) := by rw [IntKind.wrap_u64]; omega
  have a2 : IntKind.i64.wrap (32 - (n : Int)) = ((32 - n : Nat) : Int) := by rw [IntKind.wrap_i64]; omega
  have a3 : IntKind.u64.wrap ((32 - n : Nat) : Int) = ((32 - n : Nat) : Int) := by rw [IntKind.wrap_u64]; omega
  have a4 : (32 : Int) - (n : Int) = ((32 - n : Nat) : Int) := by omega
  have a5 : min n 32 = n := by omega
  have a6 : min (32 - n) 64 = 32 - n := by omega
  go_wp2
  go_loopw [5, 6, 15] (fun v c i wr => ∃ (k : Nat) (out : List Int) (low : Nat), k ≤ xs.length ∧ i = .int .i64 k ∧ c = .int .u32 low ∧ low < 4294967296 ∧ Hid (low < 2 ^ n) ∧
      wr.ownsRow w.heap.size 145 1 v k (out.map (Value.int .u32)) ∧ Hid (out.length = k) ∧ Hid (Words out) ∧ Hid (bval out + 4294967296 ^ k * low = bval (xs.take k) * 2 ^ n) ∧ Below w.heap.size w wr)
    (fun _ _ i _ => xs.length - (intOf i).toNat)
  case atStart => exact ⟨0, [], 0, Nat.zero_le _, rfl, rfl, by decide, Nat.two_pow_pos n, hown, rfl, fun x hx => by simp at hx, by show _ = _; simp [bval], hb⟩
  case round =>
    obtain ⟨k, out, low, hk, rfl, rfl, hlw, hln, hown1, hol, how, hval, hb1⟩ := hrel
    clear hown hb
    have hsz := hb1.size
    by_cases hkx : k < xs.length
    · obtain ⟨b1, o1, rfl, -, hcx⟩ := (H.out.keep hb1).addr (by omega)
      have hx := hcx k hkx
      clear hcx
      obtain ⟨bx0, bx1⟩ := words_getD HWX.out k
      obtain ⟨x, ex⟩ : ∃ x : Nat, (x : Int) = xs.getD k 0 := ⟨(xs.getD k 0).toNat, by omega⟩
      rw [← ex] at hx bx1
      have EX := Lib.hid ex
      clear ex bx0
      obtain ⟨e1, e2, e3, e4⟩ := left_word n x low hn (by omega) hln.out
      obtain ⟨y, hy⟩ : ∃ y, y = x * 2 ^ n % 4294967296 + low := ⟨_, rfl⟩
      obtain ⟨z, hz⟩ : ∃ z, z = x / 2 ^ (32 - n) := ⟨_, rfl⟩
      have hzi : (x : Int) / 2 ^ (32 - n) = (z : Int) := by rw [hz, Int.natCast_ediv, Int.natCast_pow]; rfl
      have hzl : z ≤ x := by rw [hz]; exact Nat.div_le_self _ _
      rw [← hy] at e1 e3 e4
      rw [← hz] at e2 e4
      have e5 : (z : Int) % 4294967296 = (z : Int) := by omega
      have E2 := Lib.hid e2
      have E4 := Lib.hid e4
      clear hy hz e2 e4
      have hT : Hid (bval (out ++ [(y : Int)]) + 4294967296 ^ (k + 1) * z = bval (xs.take (k + 1)) * 2 ^ n) := by
        show _ = _
        rw [bval_append, bval_take_succ, ← EX.out, hol.out, Nat.pow_succ, Nat.add_mul, ← hval.out]
        simp only [bval, Nat.mul_zero, Nat.add_zero, Int.toNat_natCast]
        have h4 := E4.out
        generalize 4294967296 ^ k = q at *
        have h5 : q * y + q * 4294967296 * z = q * (x * 2 ^ n) + q * low := by
          rw [Nat.mul_assoc, ← Nat.mul_add, ← Nat.mul_add, h4]
        rw [Nat.mul_assoc q x]
        omega
      have hW2 : Words (out ++ [(y : Int)]) := by
        intro u hu
        rcases List.mem_append.1 hu with hu | hu
        · exact how.out u hu
        · simp at hu; omega
      have HW2 := Lib.hid hW2
      clear hW2
      go_wp2_with (first
        | (at_builtin; refine Gx.wpList_push wr rfl _ _ 169 rfl w.heap.size 145 (.int .u32 0) 1 4 Tryz.underlying169 Tryz.info_u32 rfl (by decide) _ _ _ [.int .u32 (y : Int)] _ rfl rfl (by exact hown1) rfl rfl ?a2 ?a3 ?a4 ?a5 ?_))
      case a2 => intro u hu; simp at hu; subst hu; rfl
      case a3 => omega
      case a4 => omega
      case a5 => omega
      intro v' w' hown2 hg2 _ _
      have hb2 : Below w.heap.size w w' := hb1.grown hg2 hsz (fun k e => (hown1.lt k e).1)
      have hown3 : w'.ownsRow w.heap.size 145 1 v' (k + 1) ((out ++ [(y : Int)]).map (Value.int .u32)) := by
        rw [List.map_append]; exact hown2
      clear hown1 hown2 hg2
      go_wp2
      go_roundw
      case rel => exact ⟨k + 1, out ++ [(y : Int)], z, by omega, by go_num, rfl, by omega, E2, hown3, by simp [Hid, hol.out], HW2, hT, hb2⟩
      case measure => simp [intOf]; omega
    · obtain rfl : k = xs.length := by omega
      have hv := hval.out
      rw [List.take_of_length_le (Nat.le_refl _), HBV.out] at hv
      have hvv : v ≤ v * 2 ^ n := Nat.le_mul_of_pos_right _ (Nat.two_pow_pos n)
      by_cases h0 : low = 0
      · subst h0
        have hc : canon (v * 2 ^ n) = out := by
          rw [← hv, Nat.mul_zero, Nat.add_zero]
          refine canon_of_big out how.out ?_
          have := HGT.out
          rw [hol.out]; omega
        have HC := Lib.hid hc
        clear hc hv hvv
        obtain ⟨ad', cap', he, hrd⟩ := Gx.Rd.own (k := .u32) (xs := out) hown1 (wf_words how.out)
        have HR := Lib.hid hrd
        clear hrd hown1
        rw [he]
        clear he
        go_wp2
        go_ret
        exact ⟨ad', cap', by rw [HC.out]; rfl, by rw [HC.out]; exact HR.out, hb1⟩
      · have hpos : decide ((0 : Int) < (low : Int)) = true := by simp; omega
        have hW2 : Words (out ++ [(low : Int)]) := by
          intro u hu
          rcases List.mem_append.1 hu with hu | hu
          · exact how.out u hu
          · simp at hu; omega
        have hc : canon (v * 2 ^ n) = out ++ [(low : Int)] := by
          have e : v * 2 ^ n = bval (out ++ [(low : Int)]) := by
            rw [bval_append, hol.out, ← hv]; simp [bval]
          rw [e]
          refine canon_of_big _ hW2 ?_
          rw [← e, ← hv, List.length_append, hol.out]
          simp only [List.length_cons, List.length_nil, Nat.zero_add, Nat.add_sub_cancel]
          have : 4294967296 ^ xs.length * 1 ≤ 4294967296 ^ xs.length * low := Nat.mul_le_mul_left _ (by omega)
          omega
        have HC := Lib.hid hc
        have HW2 := Lib.hid hW2
        clear hc hv hvv hW2
        go_wp2_with (first
          | (at_builtin; refine Gx.wpList_push wr rfl _ _ 169 rfl w.heap.size 145 (.int .u32 0) 1 4 Tryz.underlying169 Tryz.info_u32 rfl (by decide) _ _ _ [.int .u32 (low : Int)] _ rfl rfl (by exact hown1) rfl rfl ?d2 ?d3 ?d4 ?d5 ?_))
        case d2 => intro u hu; simp at hu; subst hu; rfl
        case d3 => omega
        case d4 => omega
        case d5 => omega
        intro v' w' hown2 hg2 _ _
        have hb2 : Below w.heap.size w w' := hb1.grown hg2 hsz (fun k e => (hown1.lt k e).1)
        obtain ⟨ad', cap', he, hrd⟩ := Gx.Rd.own (k := .u32) (xs := out ++ [(low : Int)]) (by simpa using hown2) (wf_words HW2.out)
        have HR := Lib.hid hrd
        clear hrd hown1 hown2 hg2
        rw [he]
        clear he
        go_wp2
        go_ret
        exact ⟨ad', cap', by rw [HC.out]; rfl, by rw [HC.out]; exact HR.out, hb2⟩
end Go.Proofs.YtldhmfkojaekfaaGreatDoor
namespace Go.Proofs.YtldhmfkojaekfaaGreatDoor
open Go.RowKit Gx
set_option maxRecDepth 100000
/-- words that a call has made, in a row of its own -/
def OwnPostFl (n : Nat) (w : World) (e : Ending) (w' : World) : Prop :=
  ∃ vo vc, e = .returned (.slice vo (canon n).length vc) ∧ w'.ownsRow w.heap.size 145 1 (.slice vo (canon n).length vc) (canon n).length ((canon n).map (Value.int .u32)) ∧ Below w.heap.size w w'

set_option maxHeartbeats 1000000 in
theorem bigLeft_own (ad : Option Addr) (ca v n : Nat) (w : World) (h : Rd .u32 w ad ca (canon v)) (hl : (canon v).length ≤ 1048576) (hv : v ≠ 0) (hn : n ≤ 31) :
    Calls Tryz.prog 158 #[.slice ad (canon v).length ca, .int .i64 n] w (OwnPostFl (v * 2 ^ n) w) := by
  obtain ⟨xs, hxs⟩ : ∃ xs, xs = canon v := ⟨_, rfl⟩
  have hbv : bval xs = v := by rw [hxs, bval_canon]
  have hgt := canon_len_gt v hv
  rw [← hxs] at h hl hgt ⊢
  have hwx := words_of_rd h
  have H := Lib.hid h
  have HWX := Lib.hid hwx
  have HBV := Lib.hid hbv
  have HGT := Lib.hid hgt
  clear h hwx hxs hbv hgt
  go_enter Tryz.func158, Tryz.ntmps158
  obtain ⟨i0, hi, hz0, hz1, hz2⟩ := info_parts Tryz.info_u32
  have HI := Lib.hid hi
  have HZ0 := Lib.hid hz0
  have HZ1 := Lib.hid hz1
  clear hi hz0 hz1
  go_wp2_with (first
    | (at_make; refine wpList_make_own _ rfl _ _ 169 rfl w.heap.size 145 i0 (.int .u32 0) 1 Tryz.underlying169 HI.out HZ0.out HZ1.out .i64 .i64 _ (xs.length + 2) rfl rfl (by omega) (by rw [hz2]; omega) (by unfold maxLen; omega) (Nat.le_refl _) ?_))
  intro w1 hown hg
  have hb : Below w.heap.size w w1 := Gx.grown_below hg (Nat.le_refl _) (by simp)
  clear hg
  obtain ⟨v0, hv0⟩ : ∃ v0, v0 = Value.slice (some ⟨w.heap.size, 0, none⟩) 0 (xs.length + 2) := ⟨_, rfl⟩
  rw [← hv0] at hown ⊢
  clear hv0
  have a1 : IntKind.u64.wrap (n : Int) = (n : Int) := by rw [IntKind.wrap_u64]; omega
  have a2 : IntKind.i64.wrap (32 - (n : Int)) = ((32 - n : Nat) : Int) := by rw [IntKind.wrap_i64]; omega
  have a3 : IntKind.u64.wrap ((32 - n : Nat) : Int) = ((32 - n : Nat) : Int) := by rw [IntKind.wrap_u64]; omega
  have a4 : (32 : Int) - (n : Int) = ((32 - n : Nat) : Int) := by omega
  have a5 : min n 32 = n := by omega
  have a6 : min (32 - n) 64 = 32 - n := by omega
  go_wp2
  go_loopw [5, 6, 15] (fun v c i wr => ∃ (k : Nat) (out : List Int) (low : Nat), k ≤ xs.length ∧ i = .int .i64 k ∧ c = .int .u32 low ∧ low < 4294967296 ∧ Hid (low < 2 ^ n) ∧
      wr.ownsRow w.heap.size 145 1 v k (out.map (Value.int .u32)) ∧ Hid (out.length = k) ∧ Hid (Words out) ∧ Hid (bval out + 4294967296 ^ k * low = bval (xs.take k) * 2 ^ n) ∧ Below w.heap.size w wr)
    (fun _ _ i _ => xs.length - (intOf i).toNat)
  case atStart => exact ⟨0, [], 0, Nat.zero_le _, rfl, rfl, by decide, Nat.two_pow_pos n, hown, rfl, fun x hx => by simp at hx, by show _ = _; simp [bval], hb⟩
  case round =>
    obtain ⟨k, out, low, hk, rfl, rfl, hlw, hln, hown1, hol, how, hval, hb1⟩ := hrel
    clear hown hb
    have hsz := hb1.size
    by_cases hkx : k < xs.length
    · obtain ⟨b1, o1, rfl, -, hcx⟩ := (H.out.keep hb1).addr (by omega)
      have hx := hcx k hkx
      clear hcx
      obtain ⟨bx0, bx1⟩ := words_getD HWX.out k
      obtain ⟨x, ex⟩ : ∃ x : Nat, (x : Int) = xs.getD k 0 := ⟨(xs.getD k 0).toNat, by omega⟩
      rw [← ex] at hx bx1
      have EX := Lib.hid ex
      clear ex bx0
      obtain ⟨e1, e2, e3, e4⟩ := left_word n x low hn (by omega) hln.out
      obtain ⟨y, hy⟩ : ∃ y, y = x * 2 ^ n % 4294967296 + low := ⟨_, rfl⟩
      obtain ⟨z, hz⟩ : ∃ z, z = x / 2 ^ (32 - n) := ⟨_, rfl⟩
      have hzi : (x : Int) / 2 ^ (32 - n) = (z : Int) := by rw [hz, Int.natCast_ediv, Int.natCast_pow]; rfl
      have hzl : z ≤ x := by rw [hz]; exact Nat.div_le_self _ _
      rw [← hy] at e1 e3 e4
      rw [← hz] at e2 e4
      have e5 : (z : Int) % 4294967296 = (z : Int) := by omega
      have E2 := Lib.hid e2
      have E4 := Lib.hid e4
      clear hy hz e2 e4
      have hT : Hid (bval (out ++ [(y : Int)]) + 4294967296 ^ (k + 1) * z = bval (xs.take (k + 1)) * 2 ^ n) := by
        show _ = _
        rw [bval_append, bval_take_succ, ← EX.out, hol.out, Nat.pow_succ, Nat.add_mul, ← hval.out]
        simp only [bval, Nat.mul_zero, Nat.add_zero, Int.toNat_natCast]
        have h4 := E4.out
        generalize 4294967296 ^ k = q at *
        have h5 : q * y + q * 4294967296 * z = q * (x * 2 ^ n) + q * low := by
          rw [Nat.mul_assoc, ← Nat.mul_add, ← Nat.mul_add, h4]
        rw [Nat.mul_assoc q x]
        omega
      have hW2 : Words (out ++ [(y : Int)]) := by
        intro u hu
        rcases List.mem_append.1 hu with hu | hu
        · exact how.out u hu
        · simp at hu; omega
      have HW2 := Lib.hid hW2
      clear hW2
      go_wp2_with (first
        | (at_builtin; refine Gx.wpList_push wr rfl _ _ 169 rfl w.heap.size 145 (.int .u32 0) 1 4 Tryz.underlying169 Tryz.info_u32 rfl (by decide) _ _ _ [.int .u32 (y : Int)] _ rfl rfl (by exact hown1) rfl rfl ?a2 ?a3 ?a4 ?a5 ?_))
      case a2 => intro u hu; simp at hu; subst hu; rfl
      case a3 => omega
      case a4 => omega
      case a5 => omega
      intro v' w' hown2 hg2 _ _
      have hb2 : Below w.heap.size w w' := hb1.grown hg2 hsz (fun k e => (hown1.lt k e).1)
      have hown3 : w'.ownsRow w.heap.size 145 1 v' (k + 1) ((out ++ [(y : Int)]).map (Value.int .u32)) := by
        rw [List.map_append]; exact hown2
      clear hown1 hown2 hg2
      go_wp2
      go_roundw
      case rel => exact ⟨k + 1, out ++ [(y : Int)], z, by omega, by go_num, rfl, by omega, E2, hown3, by simp [Hid, hol.out], HW2, hT, hb2⟩
      case measure => simp [intOf]; omega
    · obtain rfl : k = xs.length := by omega
      have hv := hval.out
      rw [List.take_of_length_le (Nat.le_refl _), HBV.out] at hv
      have hvv : v ≤ v * 2 ^ n := Nat.le_mul_of_pos_right _ (Nat.two_pow_pos n)
      by_cases h0 : low = 0
      · subst h0
        have hc : canon (v * 2 ^ n) = out := by
          rw [← hv, Nat.mul_zero, Nat.add_zero]
          refine canon_of_big out how.out ?_
          have := HGT.out
          rw [hol.out]; omega
        have HC := Lib.hid hc
        clear hc hv hvv
        obtain ⟨vo, vc, rfl⟩ := own_form hown1
        have HR := Lib.hid hown1
        clear hown1
        have HE := Lib.hid hol.out
        go_wp2
        go_ret
        exact ⟨vo, vc, by rw [HC.out, HE.out]; rfl, by rw [HC.out, HE.out]; exact HR.out, hb1⟩
      · have hpos : decide ((0 : Int) < (low : Int)) = true := by simp; omega
        have hW2 : Words (out ++ [(low : Int)]) := by
          intro u hu
          rcases List.mem_append.1 hu with hu | hu
          · exact how.out u hu
          · simp at hu; omega
        have hc : canon (v * 2 ^ n) = out ++ [(low : Int)] := by
          have e : v * 2 ^ n = bval (out ++ [(low : Int)]) := by
            rw [bval_append, hol.out, ← hv]; simp [bval]
          rw [e]
          refine canon_of_big _ hW2 ?_
          rw [← e, ← hv, List.length_append, hol.out]
          simp only [List.length_cons, List.length_nil, Nat.zero_add, Nat.add_sub_cancel]
          have : 4294967296 ^ xs.length * 1 ≤ 4294967296 ^ xs.length * low := Nat.mul_le_mul_left _ (by omega)
          omega
        have HC := Lib.hid hc
        have HW2 := Lib.hid hW2
        clear hc hv hvv hW2
        go_wp2_with (first
          | (at_builtin; refine Gx.wpList_push wr rfl _ _ 169 rfl w.heap.size 145 (.int .u32 0) 1 4 Tryz.underlying169 Tryz.info_u32 rfl (by decide) _ _ _ [.int .u32 (low : Int)] _ rfl rfl (by exact hown1) rfl rfl ?d2 ?d3 ?d4 ?d5 ?_))
        case d2 => intro u hu; simp at hu; subst hu; rfl
        case d3 => omega
        case d4 => omega
        case d5 => omega
        intro v' w' hown2 hg2 _ _
        have hb2 : Below w.heap.size w w' := hb1.grown hg2 hsz (fun k e => (hown1.lt k e).1)
        have hown3 : w'.ownsRow w.heap.size 145 1 v' (xs.length + 1) ((out ++ [(low : Int)]).map (Value.int .u32)) := by rw [List.map_append]; exact hown2
        obtain ⟨vo, vc, rfl⟩ := own_form hown3
        have HR := Lib.hid hown3
        have HE : Hid ((out ++ [(low : Int)]).length = xs.length + 1) := by show _ = _; simp [hol.out]
        clear hown1 hown2 hown3 hg2
        go_wp2
        go_ret
        exact ⟨vo, vc, by rw [HC.out, HE.out]; rfl, by rw [HC.out, HE.out]; exact HR.out, hb2⟩
end Go.Proofs.YtldhmfkojaekfaaGreatDoor
namespace Go.Proofs.YtldhmfkojaekfaaGreatDoor
open Go.RowKit Gx
set_option maxRecDepth 100000
set_option maxHeartbeats 1000000 in
theorem bigRight_any (ad : Option Addr) (ca : Nat) (xs : List Int) (n : Nat) (w : World) (h : Rd .u32 w ad ca xs) (hl : xs.length ≤ 1048576) (hn : n ≤ 31) :
    Calls Tryz.prog 159 #[.slice ad xs.length ca, .int .i64 n] w (WordsPost (bval xs / 2 ^ n) w) := by
  have hwx := words_of_rd h
  have H := Lib.hid h
  have HWX := Lib.hid hwx
  clear h hwx
  go_enter Tryz.func159, Tryz.ntmps159
  obtain ⟨i0, hi, hz0, hz1, hz2⟩ := info_parts Tryz.info_u32
  have HI := Lib.hid hi
  have HZ0 := Lib.hid hz0
  have HZ1 := Lib.hid hz1
  clear hi hz0 hz1
  go_wp2_with (first
    | (at_make; refine wpList_make_full _ rfl _ _ 169 rfl w.heap.size 145 i0 (.int .u32 0) 1 Tryz.underlying169 HI.out HZ0.out HZ1.out .i64 .i64 _ _ xs.length rfl rfl (by omega) (by omega) (by rw [hz2]; omega) (by unfold maxLen; omega) (Nat.le_refl _) ?_))
  intro w1 hown hg
  have hb : Below w.heap.size w w1 := Gx.grown_below hg (Nat.le_refl _) (by simp)
  rw [madeCells_one] at hown
  clear hg hz2 HI HZ0 HZ1
  obtain ⟨m, hm⟩ : ∃ m, m = xs.length := ⟨_, rfl⟩
  obtain ⟨gb, hgb⟩ : ∃ gb, gb = w.heap.size := ⟨_, rfl⟩
  rw [← hm] at hown hl ⊢
  rw [show Value.slice (some ⟨w.heap.size, 0, none⟩) m m = Value.slice (some ⟨gb, 0, none⟩) m m from by rw [hgb]] at hown ⊢
  have HM := Lib.hid hm; clear hm
  have HGB := Lib.hid hgb; clear hgb
  have a1 : IntKind.u64.wrap (n : Int) = (n : Int) := by rw [IntKind.wrap_u64]; omega
  have a2 : IntKind.i64.wrap (32 - (n : Int)) = ((32 - n : Nat) : Int) := by rw [IntKind.wrap_i64]; omega
  have a3 : IntKind.u64.wrap ((32 - n : Nat) : Int) = ((32 - n : Nat) : Int) := by rw [IntKind.wrap_u64]; omega
  have a4 : (32 : Int) - (n : Int) = ((32 - n : Nat) : Int) := by omega
  have a5 : min n 32 = n := by omega
  have a6 : min (32 - n) 64 = 32 - n := by omega
  go_wp2
  go_loopw [12] (fun i wr => ∃ (k : Nat) (out : List Int), k ≤ m ∧ i = .int .i64 k ∧
      wr.ownsRow w.heap.size 145 1 (.slice (some ⟨gb, 0, none⟩) m m) m (out.map (Value.int .u32)) ∧ Hid (out.length = m) ∧ Hid (Words out) ∧ Hid (∀ j, j < k → (out.getD j 0).toNat = bval xs / 2 ^ n / 4294967296 ^ j % 4294967296) ∧ Below w.heap.size w wr)
    (fun i _ => m - (intOf i).toNat)
  case atStart =>
    refine ⟨0, List.replicate m 0, Nat.zero_le _, rfl, hown, by simp [Hid], fun x hx => ?_, fun j hj => by omega, hb⟩
    have := (List.mem_replicate.1 hx).2; omega
  case round =>
    clear hown hb
    obtain ⟨k, out, hk, rfl, hown1, hol, how, hval, hb1⟩ := hrel
    have hb3 := hb1.size
    have hgb : w.heap.size ≤ gb := by rw [HGB.out]; exact Nat.le_refl _
    by_cases hkx : k < m
    · obtain ⟨b1, o1, rfl, hbl, -⟩ := H.out.addr (by have := HM.out; omega)
      obtain ⟨b1', o1', he, -, hcx⟩ := (H.out.keep hb1).addr (by have := HM.out; omega)
      obtain ⟨rfl, rfl⟩ : b1 = b1' ∧ o1 = o1' := by simpa using he
      clear he
      have hx := hcx k (by have := HM.out; omega)
      obtain ⟨bx0, bx1⟩ := words_getD HWX.out k
      obtain ⟨x, ex⟩ : ∃ x : Nat, (x : Int) = xs.getD k 0 := ⟨(xs.getD k 0).toNat, by omega⟩
      rw [← ex] at hx bx1
      have EX := Lib.hid ex
      clear ex bx0
      have hol' : out.length = m := hol.out
      have hcell : ∃ y, wr.cell? ⟨gb, k, none⟩ = some (.int .u32 y) := by
        rw [hown1.cellAt k (by omega)]
        exact ⟨out[k], by simp [List.getElem?_eq_getElem (show k < out.length by omega)]⟩
      obtain ⟨y0, hcell⟩ := hcell
      have hfz : wr.frozen? ⟨gb, k, none⟩ = false := hown1.frozenAt k
      have hxi : (x : Int) / 2 ^ n = ((x / 2 ^ n : Nat) : Int) := by rw [Int.natCast_ediv, Int.natCast_pow]; rfl
      obtain ⟨q, hq⟩ : ∃ q, q = x / 2 ^ n := ⟨_, rfl⟩
      rw [← hq] at hxi
      have HQ := Lib.hid hq
      clear hq
      have hqx : q ≤ x := by rw [HQ.out]; exact Nat.div_le_self _ _
      have hst := hown1.stored k (.int .u32 (q : Int))
      have hbn : Below w.heap.size w (wr.setCell ⟨gb, k, none⟩ (.int .u32 (q : Int))) := hb1.grown hst.2 hb3 (fun q e => by cases e; exact hgb)
      have hon : (wr.setCell ⟨gb, k, none⟩ (.int .u32 (q : Int))).ownsRow w.heap.size 145 1 (.slice (some ⟨gb, 0, none⟩) m m) m ((out.set k (q : Int)).map (Value.int .u32)) := by
        rw [List.map_set]; exact hst.1
      have HON := Lib.hid hon
      have HBN := Lib.hid hbn
      have hw3 := Lib.hid (words_set how.out k (q : Int) (by omega) (by omega))
      have hl3 : Hid ((out.set k (q : Int)).length = m) := by show _ = _; rw [List.length_set]; exact hol.out
      clear hst hbn hon hown1
      by_cases hk1 : k + 1 < m
      · have hy := hcx (k + 1) (by have := HM.out; omega)
        clear hcx
        obtain ⟨by0, by1⟩ := words_getD HWX.out (k + 1)
        obtain ⟨y, ey⟩ : ∃ y : Nat, (y : Int) = xs.getD (k + 1) 0 := ⟨(xs.getD (k + 1) 0).toNat, by omega⟩
        rw [← ey] at hy by1
        have EY := Lib.hid ey
        clear ey by0
        obtain ⟨d1, d2⟩ := right_digit_next xs HWX.out n k x y hn (by rw [← HM.out]; exact hk1) EX.out EY.out
        have hor := right_or n x y hn (by omega)
        rw [← HQ.out] at d1 d2 hor
        have hyi := right_wrap n y
        obtain ⟨z, hz⟩ : ∃ z, z = y * 2 ^ (32 - n) % 4294967296 := ⟨_, rfl⟩
        rw [← hz] at hyi hor d1 d2
        have D1 := Lib.hid d1
        have D2 := Lib.hid d2
        have hz4 : z < 4294967296 := by omega
        clear d1 d2 hz
        go_wp2
        have hne : b1 ≠ gb := by omega
        have hy2 : (wr.setCell ⟨gb, k, none⟩ (.int .u32 (q : Int))).cell? ⟨b1, o1 + (k + 1), none⟩ = some (.int .u32 (y : Int)) := by
          rw [World.cell?_setCell_other _ _ _ _ (by intro h; simp only [Addr.mk.injEq] at h; omega)]; exact hy
        have hc2 : (wr.setCell ⟨gb, k, none⟩ (.int .u32 (q : Int))).cell? ⟨gb, k, none⟩ = some (.int .u32 (q : Int)) := World.cell?_setCell_same _ _ _ hcell
        obtain ⟨wz, hwz⟩ : ∃ wz : World, wz = wr.setCell ⟨gb, k, none⟩ (.int .u32 (q : Int)) := ⟨_, rfl⟩
        rw [← hwz] at hy2 hc2 HON HBN ⊢
        have hol3 : (out.set k (q : Int)).length = m := hl3.out
        have hfz2 : wz.frozen? ⟨gb, k, none⟩ = false := HON.out.frozenAt k
        have hbz := HBN.out.size
        have hst := HON.out.stored k (.int .u32 ((q + z : Nat) : Int))
        have hbn : Below w.heap.size w (wz.setCell ⟨gb, k, none⟩ (.int .u32 ((q + z : Nat) : Int))) := HBN.out.grown hst.2 hbz (fun q e => by cases e; exact hgb)
        have hon : (wz.setCell ⟨gb, k, none⟩ (.int .u32 ((q + z : Nat) : Int))).ownsRow w.heap.size 145 1 (.slice (some ⟨gb, 0, none⟩) m m) m (((out.set k (q : Int)).set k ((q + z : Nat) : Int)).map (Value.int .u32)) := by
          rw [List.map_set]; exact hst.1
        have HON2 := Lib.hid hon
        have HBN2 := Lib.hid hbn
        have hqz := D2.out
        have hw4 := Lib.hid (words_set hw3.out k ((q + z : Nat) : Int) (by omega) (by omega))
        have hl4 : Hid (((out.set k (q : Int)).set k ((q + z : Nat) : Int)).length = m) := by show _ = _; rw [List.length_set]; exact hl3.out
        have hT : Hid (∀ j, j < k + 1 → (((out.set k (q : Int)).set k ((q + z : Nat) : Int)).getD j 0).toNat = bval xs / 2 ^ n / 4294967296 ^ j % 4294967296) := by
          refine digits_set _ k m _ (fun j => bval xs / 2 ^ n / 4294967296 ^ j % 4294967296) hl3.out hkx (fun j hj => ?_) ?_
          · rw [getD_set_ne _ _ _ _ (by omega)]; exact hval.out j hj
          · rw [D1.out, Int.toNat_natCast]
        have hor2 : bits BinOp.or IntKind.u32 (q : Int) (IntKind.u64.wrap ((y : Int) * 2 ^ (32 - n)) % 4294967296) = ((q + z : Nat) : Int) := by rw [IntKind.wrap_u64, hyi]; exact hor
        have HOR := Lib.hid hor2
        clear hor2
        have i1 : (0 : Int) ≤ (k : Int) + 1 := by omega
        have i2 : (k : Int) + 1 < (m : Int) := by omega
        have i3 : ((k : Int) + 1).toNat = k + 1 := by omega
        have i4 : IntKind.i64.wrap ((k : Int) + 1) = (k : Int) + 1 := by rw [IntKind.wrap_i64]; omega
        have i5 : (k : Int) < (m : Int) := by omega
        clear hst hbn hon hwz hx hcell hfz hol3 hol' hy hor
        go_region
        rw [HOR.out]
        go_wp2
        go_roundw
        case rel => exact ⟨k + 1, (out.set k (q : Int)).set k ((q + z : Nat) : Int), by omega, by go_num, HON2.out.drew, hl4, hw4, hT, HBN2.out.drew⟩
        case measure => simp [intOf]; omega
      · have hT : Hid (∀ j, j < k + 1 → ((out.set k (q : Int)).getD j 0).toNat = bval xs / 2 ^ n / 4294967296 ^ j % 4294967296) := by
          refine digits_set out k m _ (fun j => bval xs / 2 ^ n / 4294967296 ^ j % 4294967296) hol.out hkx hval.out ?_
          rw [right_digit_last xs HWX.out n k x hn (by have := HM.out; omega) EX.out, Int.toNat_natCast, HQ.out]
        clear hcx
        go_wp2
        go_roundw
        case rel => exact ⟨k + 1, out.set k (q : Int), by omega, by go_num, HON.out, hl3, hw3, hT, HBN.out⟩
        case measure => simp [intOf]; omega
    · obtain rfl : k = m := by omega
      have hfin : bval out = bval xs / 2 ^ n := right_end xs out HWX.out n (hol.out.trans HM.out) (by rw [← HM.out]; exact hval.out)
      have HF := Lib.hid hfin
      obtain ⟨ad', cap', he, hrd⟩ := Gx.Rd.own (k := .u32) (xs := out) hown1 (wf_words how.out)
      have HR := Lib.hid hrd
      have hlo : out.length ≤ 1048576 := by have := hol.out; omega
      clear hrd hown1 hfin hval
      rw [he]
      clear he
      go_wp2_with (first
        | (go_at_call 157; refine (trimmed_any ad' cap' out _ HR.out (by omega)).mono ?_; rintro e w' ⟨rfl, rfl⟩))
      go_ret
      refine ⟨ad', cap', ?_, ?_, hb1⟩
      · rw [← HF.out]; rfl
      · rw [← HF.out]; exact HR.out.trim
end Go.Proofs.YtldhmfkojaekfaaGreatDoor
