/-
  The contract of the reader's value. No conditions.
-/
import Derived.Test.YtmpaaedccodjaaaDoorReader3
namespace Go.Proofs.YtmpaaedccodjaaaDoor
open Go.RowKit Gx
set_option maxRecDepth 100000

set_option maxHeartbeats 8000000 in
theorem value_step (d : Nat) (hd : d ≤ 1001) (IH : ∀ d', d = d' + 1 → ∀ (n₀ R : Nat) (l : List Int) (bad : Bool) (w : World), RdS n₀ w R l bad → l.length ≤ 100000000 → Calls Tryd.prog 28 #[.pointer (some ⟨R, 0, none⟩), .int .i64 (1001 - (d' : Int))] w (ValPost n₀ R d' l bad w))
    (n₀ R : Nat) (l : List Int) (bad : Bool) (w : World) (h : RdS n₀ w R l bad) (hl : l.length ≤ 100000000) : Calls Tryd.prog 28 #[.pointer (some ⟨R, 0, none⟩), .int .i64 (1001 - (d : Int))] w (ValPost n₀ R d l bad w) := by
  have hn := h.n0
  have hRn := h.lt
  have HTD := Lib.hid (val_told d l bad hd)
  obtain ⟨⟨c, l1, b1⟩, hrb⟩ : ∃ r, rbyte l bad = r := ⟨_, rfl⟩
  have hwf := rbyte_wf h
  have hlen : (rbyte l bad).2.1.length ≤ l.length := by cases l <;> simp [rbyte]
  have hg1 : w.grownBy (w.alloc (.cells #[.int .i64 0, .int .i64 0, .int .u64 0, .string ⟨#[]⟩, .slice none 0 0, .slice none 0 0] 26)) (some R) := ⟨rfl, rfl, rfl, by simp, fun k hk _ => Below.heap_alloc w _ k hk⟩
  have hS1 := h.keep ((Below.refl _ w).alloc (Nat.le_refl _) (.cells #[.int .i64 0, .int .i64 0, .int .u64 0, .string ⟨#[]⟩, .slice none 0 0, .slice none 0 0] 26))
  have hr1 := heap_alloc_new w (.cells #[.int .i64 0, .int .i64 0, .int .u64 0, .string ⟨#[]⟩, .slice none 0 0, .slice none 0 0] 26)
  have HBY := Lib.hid (byte_any n₀ R l bad _ hS1)
  have hs1 : w.heap.size < (w.alloc (.cells #[.int .i64 0, .int .i64 0, .int .u64 0, .string ⟨#[]⟩, .slice none 0 0, .slice none 0 0] 26)).heap.size := by simp
  rw [hrb] at HBY HTD hwf hlen
  obtain ⟨hc0, hc1⟩ := hwf
  simp only at hc0 hc1 hlen
  have HL := Lib.hid (Nat.le_trans hlen hl)
  have HLL := Lib.hid hlen
  clear hrb h hS1 hlen
  go_enter Tryd.func28, Tryd.ntmps28
  go_upto_region 1 with fail
  generalize hw1 : World.alloc w _ = w1 at HBY hg1 hr1 hs1 ⊢
  clear hw1
  go_wp2_with fail
  (with_reducible refine HBY.out.mono ?_)
  rintro e w2 ⟨rfl, h2, hg2⟩
  simp only at h2 HTD ⊢
  go_upto_region 2 with fail
  have hVS : VS n₀ R w2.heap.size w l1 b1 (c - 1) 0 0 ⟨#[]⟩ (.slice none 0 0) (.slice none 0 0) (w2.alloc (.cells #[.int .i64 (c - 1), .int .i64 0, .int .u64 0, .string ⟨#[]⟩, .slice none 0 0, .slice none 0 0] 26)) := by
    have hsz : w.heap.size < w2.heap.size := Nat.lt_of_lt_of_le hs1 hg2.size
    have hbl := (Below.refl w2.heap.size w2).alloc (Nat.le_refl _) (.cells #[.int .i64 (c - 1), .int .i64 0, .int .u64 0, .string ⟨#[]⟩, .slice none 0 0, .slice none 0 0] 26)
    refine ⟨(hbl.block _ hsz).trans ((hg2.block _ hs1 (fun e => by have := Option.some.inj e; omega)).trans hr1), heap_alloc_new w2 _, h2.keep hbl, ?_, hsz, hn⟩
    have hg := grown_twice hg1 hg2
    exact ⟨hbl.os.trans hg.os, hbl.tape.trans hg.tape, hbl.output.trans hg.output, Nat.le_trans hg.size hbl.size, fun i hi hne => (hbl.block i (by omega)).trans (hg.block i hi hne)⟩
  generalize hw3 : World.alloc w2 _ = w3 at hVS ⊢
  generalize hvb : w2.heap.size = vb at hVS ⊢
  clear hw3 hvb
  have HVS := Lib.hid hVS
  obtain ⟨ad, cc, -, r1, rf⟩ := hVS.rs.cells
  have rf1 := rf 1
  clear h2 hg2 hg1 hr1 hs1 HBY hVS rf
  obtain ⟨bd, hbd⟩ : ∃ bd, (b1 || decide (1000 < 1001 - (d : Int))) = bd := ⟨_, rfl⟩
  rw [hbd] at HTD
  go_cut [] (fun wx => Hid (VS n₀ R vb w l1 bd (c - 1) 0 0 ⟨#[]⟩ (.slice none 0 0) (.slice none 0 0) wx))
  case first =>
    cases b1 with
    | true =>
      have HB := Lib.hid hbd
      clear hbd
      go_wp2_with fail
      go_meet
      rw [← HB.out]
      exact Lib.hid (HVS.out.setBad true)
    | false =>
      cases bd with
      | true =>
        have td : decide (1000 < 1001 - (d : Int)) = true := by simpa using hbd
        go_wp2_with fail
        go_meet
        exact Lib.hid (HVS.out.setBad true)
      | false =>
        have td : decide (1000 < 1001 - (d : Int)) = false := by simpa using hbd
        go_wp2_with fail
        go_meet
        exact Lib.hid (HVS.out.setBad false)
  case rest =>
  have HBD : Hid (bd = true ∨ 0 < d) := Lib.hid (by
    cases bd with
    | true => exact .inl rfl
    | false => right; have : decide (1000 < 1001 - (d : Int)) = false := by cases b1 <;> simp_all
               have := of_decide_eq_false this; omega)
  clear HVS r1 rf1 hbd
  have HVS := Lib.hid hcut.out
  obtain ⟨g0, -⟩ := HVS.out.cells
  clear hcut
  by_cases hk : c = 1
  · subst hk
    have HV0 : Hid (VS n₀ R vb w l1 bd 0 0 0 ⟨#[]⟩ (.slice none 0 0) (.slice none 0 0) wc) := Lib.hid HVS.out
    have HTK : Hid (orBad bad (pval d l) = orBad bd (pbody (d - 1) 1 l1)) := Lib.hid HTD.out
    obtain ⟨g0, -⟩ := HV0.out.cells
    clear HVS HTD hc0 hc1
    go_upto_region 24 with fail
    obtain ⟨g0, g1, g2, g3, g4, g5, gf⟩ := HV0.out.cells
    obtain ⟨p0, p1, p2, p3, p4, p5, pf⟩ := six_cells HV0.out.res
    have pf0 := pf 0
    have pf1 := pf 1
    have pf2 := pf 2
    have pf3 := pf 3
    have pf4 := pf 4
    have pf5 := pf 5
    clear gf pf
    obtain ⟨W9, hW9, ⟨q0, q1, q2, q3, q4, q5⟩, hpost⟩ := HV0.out.fin (L := []) (E := []) (bad0 := bad) (d := d) (l0 := l) (VAt.bare (by decide) (by decide) (by decide) (by decide) (by decide) (by decide) (by decide)) rfl rfl (by rw [HTK.out]; exact told_some bd _ _) (HLL.out)
    have HP9 := Lib.hid hpost
    have HW9 := Lib.hid hW9
    clear hpost hW9 
    go_wp2_with fail
    rw [← HW9.out]
    exact bodyPost_ret (v := .agg #[.int .i64 0, .int .i64 0, .int .u64 0, .string ⟨#[]⟩, .slice none 0 0, .slice none 0 0]) (by simp [results, Tryd.results28, go_sem, q0, q1, q2, q3, q4, q5]) rfl HP9.out
  by_cases hk : c = 2
  · subst hk
    have HV0 : Hid (VS n₀ R vb w l1 bd 1 0 0 ⟨#[]⟩ (.slice none 0 0) (.slice none 0 0) wc) := Lib.hid HVS.out
    have HTK : Hid (orBad bad (pval d l) = orBad bd (pbody (d - 1) 2 l1)) := Lib.hid HTD.out
    obtain ⟨g0, -⟩ := HV0.out.cells
    clear HVS HTD hc0 hc1
    obtain ⟨⟨b, l2, b2⟩, hrb⟩ : ∃ r, rbyte l1 bd = r := ⟨_, rfl⟩
    have hwf := rbyte_wf HV0.out.rs
    have hlen : (rbyte l1 bd).2.1.length ≤ l1.length := by cases l1 <;> simp [rbyte]
    have HTB : Told (orBad bd (match l1 with | [] => none | b :: l => some (V.mk 1 b 0 ⟨#[]⟩ [] [], l))) (V.mk 1 (rbyte l1 bd).1 0 ⟨#[]⟩ [] []) (rbyte l1 bd).2.1 (rbyte l1 bd).2.2 := by
      cases l1 with
      | nil => exact told_none bd _ _
      | cons x xs => exact told_some bd _ _
    have HBY := Lib.hid (byte_any n₀ R l1 bd _ HV0.out.rs)
    rw [hrb] at HBY hwf hlen HTB
    obtain ⟨x0, x1⟩ := hwf
    simp only at x0 x1 hlen HTB
    have HTB2 := Lib.hid HTB
    have HLN := Lib.hid hlen
    clear hrb hlen HTB
    go_wp2_with fail
    (with_reducible refine HBY.out.mono ?_)
    rintro e w4 ⟨rfl, h4, hg4⟩
    have HV4 := Lib.hid (HV0.out.call h4 hg4)
    obtain ⟨-, k1, -, -, -, -, kf⟩ := HV4.out.cells
    have kf1 := kf 1
    have HV5 := Lib.hid (HV4.out.setN b)
    clear h4 hg4 kf
    simp only at HV4 HV5 ⊢
    go_upto_region 24 with fail
    generalize hwe : World.setCell w4 ⟨vb, 1, none⟩ (.int .i64 b) = we at HV5 ⊢
    clear hwe HV4 k1 kf1
    obtain ⟨g0, g1, g2, g3, g4, g5, gf⟩ := HV5.out.cells
    obtain ⟨p0, p1, p2, p3, p4, p5, pf⟩ := six_cells HV5.out.res
    have pf0 := pf 0
    have pf1 := pf 1
    have pf2 := pf 2
    have pf3 := pf 3
    have pf4 := pf 4
    have pf5 := pf 5
    clear gf pf
    obtain ⟨W9, hW9, ⟨q0, q1, q2, q3, q4, q5⟩, hpost⟩ := HV5.out.fin (L := []) (E := []) (bad0 := bad) (d := d) (l0 := l) (VAt.bare (by decide) (by decide) (by omega) (by omega) (by decide) (by decide) (by decide)) rfl rfl (by rw [HTK.out]; exact HTB2.out) (Nat.le_trans HLN.out HLL.out)
    have HP9 := Lib.hid hpost
    have HW9 := Lib.hid hW9
    clear hpost hW9 
    go_wp2_with fail
    rw [← HW9.out]
    exact bodyPost_ret (v := .agg #[.int .i64 1, .int .i64 b, .int .u64 0, .string ⟨#[]⟩, .slice none 0 0, .slice none 0 0]) (by simp [results, Tryd.results28, go_sem, q0, q1, q2, q3, q4, q5]) rfl HP9.out
  by_cases hk : c = 3
  · subst hk
    have HV0 : Hid (VS n₀ R vb w l1 bd 2 0 0 ⟨#[]⟩ (.slice none 0 0) (.slice none 0 0) wc) := Lib.hid HVS.out
    have HTK : Hid (orBad bad (pval d l) = orBad bd (pbody (d - 1) 3 l1)) := Lib.hid HTD.out
    obtain ⟨g0, -⟩ := HV0.out.cells
    clear HVS HTD hc0 hc1
    obtain ⟨⟨m, l2, b2⟩, hrb⟩ : ∃ r, rword 8 0 l1 bd = r := ⟨_, rfl⟩
    have hwf := rword_in 8 0 l1 bd HV0.out.rs.bytes (by decide) (by decide)
    have hlen := rword_len 8 0 l1 bd
    have hwt := rword_told l1 bd HV0.out.rs.bytes
    have HBY := Lib.hid (rword_any n₀ R l1 bd _ HV0.out.rs)
    rw [hrb] at HBY hwf hlen hwt
    obtain ⟨x0, x1⟩ := hwf
    simp only at x0 x1 hlen hwt
    have HWT := Lib.hid hwt
    have HLN := Lib.hid hlen
    clear hrb hlen hwt
    obtain ⟨N, hN⟩ : ∃ N, m - 9223372036854775808 = N := ⟨_, rfl⟩
    have hn0 : -9223372036854775808 ≤ N := by omega
    have hn1 : N ≤ 9223372036854775807 := by omega
    have HTW := Lib.hid (told_map (β := V) HWT.out (fun x => .mk 2 (x - 9223372036854775808) 0 ⟨#[]⟩ [] []))
    rw [hN] at HTW
    obtain ⟨X, hX⟩ : ∃ X, bits .xor .u64 m 9223372036854775808 = X := ⟨_, rfl⟩
    have hXN : IntKind.i64.wrap X = N := by
      rw [← hX, ixor_top m x0 x1]
      by_cases hm : m < 9223372036854775808
      · rw [if_pos hm]; simp [IntKind.wrap, IntKind.bits, IntKind.signed]; omega
      · rw [if_neg hm]; simp [IntKind.wrap, IntKind.bits, IntKind.signed]; omega
    clear hN
    go_wp2_with fail
    (with_reducible refine HBY.out.mono ?_)
    rintro e w4 ⟨rfl, h4, hg4⟩
    have HV4 := Lib.hid (HV0.out.call h4 hg4)
    clear h4 hg4 g0
    simp only at HV4 ⊢
    obtain ⟨-, k1, -, -, -, -, kf⟩ := HV4.out.cells
    have kf1 := kf 1
    have HV5 := Lib.hid (HV4.out.setN N)
    clear kf
    try simp only at HV5
    go_upto_region 24 with fail
    generalize hwe : World.setCell w4 ⟨vb, 1, none⟩ (.int .i64 N) = we at HV5 ⊢
    clear hwe HV4 k1 kf1
    obtain ⟨g0, g1, g2, g3, g4, g5, gf⟩ := HV5.out.cells
    obtain ⟨p0, p1, p2, p3, p4, p5, pf⟩ := six_cells HV5.out.res
    have pf0 := pf 0
    have pf1 := pf 1
    have pf2 := pf 2
    have pf3 := pf 3
    have pf4 := pf 4
    have pf5 := pf 5
    clear gf pf
    obtain ⟨W9, hW9, ⟨q0, q1, q2, q3, q4, q5⟩, hpost⟩ := HV5.out.fin (L := []) (E := []) (bad0 := bad) (d := d) (l0 := l) (VAt.bare (by decide) (by decide) hn0 hn1 (by decide) (by decide) (by decide)) rfl rfl (by rw [HTK.out]; exact HTW.out) (Nat.le_trans HLN.out HLL.out)
    have HP9 := Lib.hid hpost
    have HW9 := Lib.hid hW9
    clear hpost hW9 
    go_wp2_with fail
    rw [← HW9.out]
    exact bodyPost_ret (v := .agg #[.int .i64 2, .int .i64 N, .int .u64 0, .string ⟨#[]⟩, .slice none 0 0, .slice none 0 0]) (by simp [results, Tryd.results28, go_sem, q0, q1, q2, q3, q4, q5]) rfl HP9.out
  by_cases hk : c = 4
  · subst hk
    have HV0 : Hid (VS n₀ R vb w l1 bd 3 0 0 ⟨#[]⟩ (.slice none 0 0) (.slice none 0 0) wc) := Lib.hid HVS.out
    have HTK : Hid (orBad bad (pval d l) = orBad bd (pbody (d - 1) 4 l1)) := Lib.hid HTD.out
    obtain ⟨g0, -⟩ := HV0.out.cells
    clear HVS HTD hc0 hc1
    obtain ⟨⟨m, l2, b2⟩, hrb⟩ : ∃ r, rword 8 0 l1 bd = r := ⟨_, rfl⟩
    have hwf := rword_in 8 0 l1 bd HV0.out.rs.bytes (by decide) (by decide)
    have hlen := rword_len 8 0 l1 bd
    have hwt := rword_told l1 bd HV0.out.rs.bytes
    have HBY := Lib.hid (rword_any n₀ R l1 bd _ HV0.out.rs)
    rw [hrb] at HBY hwf hlen hwt
    obtain ⟨x0, x1⟩ := hwf
    simp only at x0 x1 hlen hwt
    have HWT := Lib.hid hwt
    have HLN := Lib.hid hlen
    clear hrb hlen hwt
    have HTW := Lib.hid (told_map (β := V) HWT.out (fun x => .mk 3 0 (fback x) ⟨#[]⟩ [] []))
    have hfb : fback m = if m < 9223372036854775808 then 18446744073709551615 - m else m - 9223372036854775808 := rfl
    obtain ⟨F, hF⟩ : ∃ F, fback m = F := ⟨_, rfl⟩
    rw [hF] at hfb
    have hF0 : 0 ≤ F := by rw [hfb]; split <;> omega
    have hF1 : F ≤ 18446744073709551615 := by rw [hfb]; split <;> omega
    simp only [hF] at HTW
    have HFB := Lib.hid hfb
    clear hfb hF
    go_wp2_with fail
    (with_reducible refine HBY.out.mono ?_)
    rintro e w4 ⟨rfl, h4, hg4⟩
    have HV4 := Lib.hid (HV0.out.call h4 hg4)
    clear h4 hg4 g0
    simp only at HV4 ⊢
    obtain ⟨-, -, k2, -, -, -, kf⟩ := HV4.out.cells
    have kf2 := kf 2
    have HV5 := Lib.hid (HV4.out.setF m)
    clear kf
    try simp only at HV5
    go_upto_region 12 with fail
    generalize hwz : World.setCell w4 _ _ = wz at HV5 ⊢
    clear hwz k2 kf2
    obtain ⟨z0, z1, k5, z3, z4, z5, kf5⟩ := HV5.out.cells
    have kf6 := kf5 2
    have HV6 := Lib.hid (HV5.out.setF F)
    clear kf5
    by_cases hm : m < 9223372036854775808
    · have hbits : bits .xor .u64 IntKind.u64.max m = F := by rw [ixor_all m x0 x1, HFB.out, if_pos hm]
      have hsh : m / 9223372036854775808 = 0 := by omega
      go_upto_region 24 with fail
      rw [show (if IntKind.u64.signed = true then (-1 : Int) else IntKind.u64.max) = IntKind.u64.max from rfl, hbits]
      generalize hwe : World.setCell wz ⟨vb, 2, none⟩ (.int .u64 F) = we at HV6 ⊢
      clear hwe HV5 k5 kf6 z0 z1 z3 z4 z5
      obtain ⟨g0, g1, g2, g3, g4, g5, gf⟩ := HV6.out.cells
      obtain ⟨p0, p1, p2, p3, p4, p5, pf⟩ := six_cells HV6.out.res
      have pf0 := pf 0
      have pf1 := pf 1
      have pf2 := pf 2
      have pf3 := pf 3
      have pf4 := pf 4
      have pf5 := pf 5
      clear gf pf
      obtain ⟨W9, hW9, ⟨q0, q1, q2, q3, q4, q5⟩, hpost⟩ := HV6.out.fin (L := []) (E := []) (bad0 := bad) (d := d) (l0 := l) (VAt.bare (by decide) (by decide) (by decide) (by decide) hF0 hF1 (by decide)) rfl rfl (by rw [HTK.out]; exact HTW.out) (Nat.le_trans HLN.out HLL.out)
      have HP9 := Lib.hid hpost
      have HW9 := Lib.hid hW9
      clear hpost hW9 
      go_wp2_with fail
      rw [← HW9.out]
      exact bodyPost_ret (v := .agg #[.int .i64 3, .int .i64 0, .int .u64 F, .string ⟨#[]⟩, .slice none 0 0, .slice none 0 0]) (by simp [results, Tryd.results28, go_sem, q0, q1, q2, q3, q4, q5]) rfl HP9.out
    · have hbits : bits .xor .u64 m 9223372036854775808 = F := by rw [ixor_top m x0 x1, if_neg hm, HFB.out, if_neg hm]
      have hsh : m / 9223372036854775808 = 1 := by omega
      go_upto_region 24 with fail
      generalize hwe : World.setCell wz ⟨vb, 2, none⟩ (.int .u64 F) = we at HV6 ⊢
      clear hwe HV5 k5 kf6 z0 z1 z3 z4 z5
      obtain ⟨g0, g1, g2, g3, g4, g5, gf⟩ := HV6.out.cells
      obtain ⟨p0, p1, p2, p3, p4, p5, pf⟩ := six_cells HV6.out.res
      have pf0 := pf 0
      have pf1 := pf 1
      have pf2 := pf 2
      have pf3 := pf 3
      have pf4 := pf 4
      have pf5 := pf 5
      clear gf pf
      obtain ⟨W9, hW9, ⟨q0, q1, q2, q3, q4, q5⟩, hpost⟩ := HV6.out.fin (L := []) (E := []) (bad0 := bad) (d := d) (l0 := l) (VAt.bare (by decide) (by decide) (by decide) (by decide) hF0 hF1 (by decide)) rfl rfl (by rw [HTK.out]; exact HTW.out) (Nat.le_trans HLN.out HLL.out)
      have HP9 := Lib.hid hpost
      have HW9 := Lib.hid hW9
      clear hpost hW9 
      go_wp2_with fail
      rw [← HW9.out]
      exact bodyPost_ret (v := .agg #[.int .i64 3, .int .i64 0, .int .u64 F, .string ⟨#[]⟩, .slice none 0 0, .slice none 0 0]) (by simp [results, Tryd.results28, go_sem, q0, q1, q2, q3, q4, q5]) rfl HP9.out
  by_cases hk : c = 5
  · subst hk
    have HV0 : Hid (VS n₀ R vb w l1 bd 4 0 0 ⟨#[]⟩ (.slice none 0 0) (.slice none 0 0) wc) := Lib.hid HVS.out
    have HTK : Hid (orBad bad (pval d l) = orBad bd (pbody (d - 1) 5 l1)) := Lib.hid HTD.out
    obtain ⟨g0, -⟩ := HV0.out.cells
    clear HVS HTD hc0 hc1
    have HBY := Lib.hid (rchain_any n₀ R l1 bd _ HV0.out.rs HL.out)
    go_wp2_with fail
    (with_reducible refine HBY.out.mono ?_)
    rintro e w4 ⟨t, l2, b2, rfl, h4, hg4, ht4, htl, hl2⟩
    have HTW := Lib.hid (told_map (β := V) ht4 (fun x => .mk 4 0 0 (strOf x) [] []))
    have hsz : (strOf t).size ≤ 140737488351232 := by
      have : (strOf t).size = t.length := by show ((t.map _).toArray).size = _; simp
      have := HL.out
      omega
    obtain ⟨s, hs⟩ : ∃ s, strOf t = s := ⟨_, rfl⟩
    simp only [hs] at HTW hsz ⊢
    have HV4 := Lib.hid (HV0.out.call h4 hg4)
    have HLN := Lib.hid hl2
    clear h4 hg4 g0 ht4 hl2 hs htl
    try simp only at HV4 ⊢
    obtain ⟨-, -, -, k3, -, -, kf⟩ := HV4.out.cells
    have kf3 := kf 3
    have HV5 := Lib.hid (HV4.out.setS s)
    clear kf
    try simp only at HV5
    go_upto_region 24 with fail
    generalize hwe : World.setCell w4 ⟨vb, 3, none⟩ (.string s) = we at HV5 ⊢
    clear hwe HV4 k3 kf3
    obtain ⟨g0, g1, g2, g3, g4, g5, gf⟩ := HV5.out.cells
    obtain ⟨p0, p1, p2, p3, p4, p5, pf⟩ := six_cells HV5.out.res
    have pf0 := pf 0
    have pf1 := pf 1
    have pf2 := pf 2
    have pf3 := pf 3
    have pf4 := pf 4
    have pf5 := pf 5
    clear gf pf
    obtain ⟨W9, hW9, ⟨q0, q1, q2, q3, q4, q5⟩, hpost⟩ := HV5.out.fin (L := []) (E := []) (bad0 := bad) (d := d) (l0 := l) (VAt.bare (by decide) (by decide) (by decide) (by decide) (by decide) (by decide) hsz) rfl rfl (by rw [HTK.out]; exact HTW.out) (Nat.le_trans HLN.out HLL.out)
    have HP9 := Lib.hid hpost
    have HW9 := Lib.hid hW9
    clear hpost hW9 
    go_wp2_with fail
    rw [← HW9.out]
    exact bodyPost_ret (v := .agg #[.int .i64 4, .int .i64 0, .int .u64 0, .string s, .slice none 0 0, .slice none 0 0]) (by simp [results, Tryd.results28, go_sem, q0, q1, q2, q3, q4, q5]) rfl HP9.out
  by_cases hk : c = 6
  · subst hk
    have HV0 : Hid (VS n₀ R vb w l1 bd 5 0 0 ⟨#[]⟩ (.slice none 0 0) (.slice none 0 0) wc) := Lib.hid HVS.out
    have HTK : Hid (orBad bad (pval d l) = orBad bd (pbody (d - 1) 6 l1)) := Lib.hid HTD.out
    obtain ⟨g0, -⟩ := HV0.out.cells
    clear HVS HTD hc0 hc1
    have HTP : Hid (pbody (d - 1) 6 l1 = (plist (pval (d - 1)) (l1.length + 1) l1).map fun x => (V.mk 5 0 0 ⟨#[]⟩ x.1 [], x.2)) := Lib.hid (by simp [pbody])
    obtain ⟨d', hdd⟩ : ∃ d', d - 1 = d' := ⟨_, rfl⟩
    obtain ⟨D, hD⟩ : ∃ D : Int, 1001 - (d : Int) = D := ⟨_, rfl⟩
    rw [hD]
    rw [hdd] at HTK HTP
    have hD0 : 0 ≤ D := by omega
    have hD1 : D ≤ 1001 := by omega
    have HDD := Lib.hid hdd
    have HDI := Lib.hid hD
    clear hD hdd
    go_wp2_with fail
    go_loopw [] (fun wr => ∃ (ps : List (ByteArray × Loc)) (l' : List Int) (bad' : Bool) (m : Nat) (ao : Option Addr) (cp n : Nat), n ≤ 100000000 ∧ Hid (ps.length = n) ∧ Hid (VS n₀ R vb w l' bad' 5 0 0 ⟨#[]⟩ (.slice ao n cp) (.slice none 0 0) wr) ∧ Hid (Acc wr vb false 26 (.slice ao n cp) ps) ∧ Hid (∀ p ∈ ps, p.1 = ⟨#[]⟩) ∧ Hid (l'.length < m) ∧ Hid (bd = true → bad' = true) ∧
      Hid (orBad bd (plist (pval d') (l1.length + 1) l1) = orBad bad' ((plist (pval d') m l').map fun x => (ps.map (·.2.v) ++ x.1, x.2))) ∧ Hid (n + l'.length ≤ l1.length)) (fun wr => leftAt wr R)
    case atStart => exact ⟨[], l1, bd, l1.length + 1, none, 0, 0, by omega, Lib.hid rfl, HV0, Lib.hid (Acc.nil _ _ _ _), Lib.hid (fun _ h => absurd h List.not_mem_nil), Lib.hid (Nat.lt_succ_self _), Lib.hid id, Lib.hid (by simp), Lib.hid (by omega)⟩
    case round =>
      obtain ⟨ps, l', bad', m, ao, cp, n, hn8, HN, HV, HA, HZ, HM, HBB, HP, HLN⟩ := hrel
      obtain ⟨⟨gb, l2, b2⟩, hrm⟩ : ∃ r, rmore l' bad' = r := ⟨_, rfl⟩
      have HMO := Lib.hid (more_any n₀ R l' bad' wr HV.out.rs)
      rw [hrm] at HMO
      have hl2 : l2.length ≤ l'.length := by
        have : (rmore l' bad').2.1.length ≤ l'.length := by cases l' <;> simp [rmore, rbyte]
        rw [hrm] at this; exact this
      have HL2 := Lib.hid hl2
      have HRM := Lib.hid hrm
      clear hrm hl2
      go_wp2_with fail
      (with_reducible refine HMO.out.mono ?_)
      rintro e w4 ⟨rfl, h4, hg4⟩
      have HV4 := Lib.hid (HV.out.call h4 hg4)
      have HA4 := Lib.hid (HA.out.grow hg4 (fun b e => by have := Option.some.inj e; have := HV.out.rb; have := HV.out.lt; omega))
      clear h4 hg4 HMO
      try simp only at HV4 ⊢
      cases gb with
      | false =>
        have hst := more_stop (f := pval d') HRM.out HV.out.rs.bytes HM.out (ps.map (·.2.v))
        rw [← HP.out] at hst
        have HTW := Lib.hid (told_map (β := V) hst (fun x => .mk 5 0 0 ⟨#[]⟩ x []))
        clear hst
        go_upto_region 24 with fail
        obtain ⟨g0, g1, g2, g3, g4, g5, gf⟩ := HV4.out.cells
        obtain ⟨p0, p1, p2, p3, p4, p5, pf⟩ := six_cells HV4.out.res
        have pf0 := pf 0
        have pf1 := pf 1
        have pf2 := pf 2
        have pf3 := pf 3
        have pf4 := pf 4
        have pf5 := pf 5
        clear gf pf
        obtain ⟨W9, hW9, ⟨q0, q1, q2, q3, q4, q5⟩, hpost⟩ := HV4.out.fin (L := ps.map (·.2.v)) (E := []) (bad0 := bad) (d := d) (l0 := l) (VAt.list HA4.out HZ.out HN.out hn8) (by rw [List.length_map]; exact HN.out) rfl (by rw [HTK.out, HTP.out]; exact HTW.out) (Nat.le_trans HL2.out (Nat.le_trans (by have := HLN.out; omega) HLL.out))
        have HP9 := Lib.hid hpost
        have HW9 := Lib.hid hW9
        clear hpost hW9 
        go_wp2_with fail
        rw [← HW9.out]
        exact bodyPost_ret (v := .agg #[.int .i64 5, .int .i64 0, .int .u64 0, .string ⟨#[]⟩, .slice ao n cp, .slice none 0 0]) (by simp [results, Tryd.results28, go_sem, q0, q1, q2, q3, q4, q5]) rfl HP9.out
      | true =>
        obtain ⟨rfl, rfl, hl', m', rfl, hml, hpl⟩ := more_go (f := pval d') HRM.out HM.out
        have hbf : bd = false := by cases bd with | false => rfl | true => exact absurd (HBB.out rfl) (by decide)
        have hd' : d = d' + 1 := by
          have h1 := HDD.out
          rcases HBD.out with h | h
          · rw [hbf] at h; cases h
          · omega
        have hn9 : n + 1 ≤ 100000000 := by have h1 := HLN.out; have h2 := HL.out; rw [hl'] at h1; omega
        have hcall : ∀ W, RdS n₀ W R l2 false → Calls Tryd.prog 28 #[.pointer (some ⟨R, 0, none⟩), .int .i64 (IntKind.i64.wrap (D + 1))] W (ValPost n₀ R d' l2 false W) := fun W hW => by
          have := IH d' hd' n₀ R l2 false W hW (by have h1 := HLN.out; have h2 := HL.out; rw [hl'] at h1; omega)
          rw [show IntKind.i64.wrap (D + 1) = 1001 - (d' : Int) by have := HDI.out; simp [IntKind.wrap, IntKind.bits, IntKind.signed]; omega]
          exact this
        have HCALL := Lib.hid hcall
        have HPL := Lib.hid hpl
        have HLE := Lib.hid hl'
        have HML := Lib.hid hml
        have HOB := Lib.hid HA4.out.above
        have HB4 := Lib.hid HV4.out.vlt
        clear hcall hpl hl' hml hbf hd'
        go_upto_region 19 with fail
        have HV4d := Lib.hid HV4.out.drew
        have HA4d : Hid (Acc w4.drew vb false 26 (.slice ao n cp) ps) := Lib.hid (HA4.out.grow (r := none) ⟨rfl, rfl, rfl, Nat.le_refl _, fun _ _ _ => rfl⟩ (fun _ e => absurd e (by simp)))
        have HCd := Lib.hid (HCALL.out w4.drew HV4d.out.rs)
        obtain ⟨-, -, -, -, k4, -, -⟩ := HV4d.out.cells
        clear HA HV4 HA4
        go_region_law (first
          | (go_simp; (with_reducible refine HCd.out.mono ?_); rintro e w5 ⟨q, l3, b3, rfl, hq, h5, hg5, ht5, hl3⟩; have hv5 := HV4d.out.call h5 hg5; obtain ⟨-, -, -, -, k5, -, -⟩ := hv5.cells; obtain ⟨-, -, -, -, k5a, -, -⟩ := (hv5.own (World.grownBy_alloc w5 (.cells #[.int .i64 q.v.k, .int .i64 q.v.n, .int .u64 q.v.f, .string q.v.s, .slice q.ad q.v.l.length q.cap, .slice q.bd q.v.e.length q.dap] 26) none) (fun b e => absurd e (by simp))).cells; have HV5 := Lib.hid hv5; have HA5 := Lib.hid (HA4d.out.grow hg5 (fun b e => by have := Option.some.inj e; have := HV4d.out.rb; have := HV4d.out.lt; omega)); have HQ5 := Lib.hid (HA4d.out.fresh HB4.out hq); have HT5 := Lib.hid ht5; have HL3 := Lib.hid hl3; clear hq h5 hg5 ht5 hl3 hv5; simp only [Loc.val])
          | (refine step_acc Tryd.underlying23 Tryd.info_val rfl (by decide) rfl (.tmp 70) (.tmp 75) rfl HA5.out HV5.out.vlt (⟨#[]⟩, q) HQ5.out (by show (0 : Nat) ≤ 140737488351232; decide) _ rfl rfl rfl n HN.out (by omega) ?_; intro ao6 c6 w6 ha6 hg6; have hv6 := HV5.out.own hg6 HOB.out; obtain ⟨-, -, -, -, k6, -, kf⟩ := hv6.cells; have kf6 := kf 4; have HV6 := Lib.hid hv6; have HA6 := Lib.hid ha6; clear ha6 hg6 hv6 kf))
        all_goals
          go_wp2_with fail
          obtain ⟨p, hp⟩ : ∃ p : ByteArray × Loc, (⟨#[]⟩, q) = p := ⟨_, rfl⟩
          have hp1 : p.1 = ⟨#[]⟩ := by rw [← hp]
          have ht : Told (pval d' l2) p.2.v l3 b3 := by rw [← hp]; exact HT5.out
          have hl3 := HL3.out
          have hv := HV6.out.setL (.slice ao6 (n + 1) c6)
          have ha := HA6.out.grow (grown_cell w6 vb 4 (.slice ao6 (n + 1) c6)) (fun b e => by have := Option.some.inj e; omega)
          rw [hp] at ha
          have H1 := Lib.hid hv
          have H2 := Lib.hid ha
          have H3 : Hid ((ps ++ [p]).length = n + 1) := Lib.hid (by rw [List.length_append, HN.out]; rfl)
          have H4 : Hid (∀ x ∈ ps ++ [p], x.1 = ⟨#[]⟩) := Lib.hid (fun x hx => by
            rcases List.mem_append.1 hx with hx | hx
            · exact HZ.out x hx
            · obtain rfl : x = p := by simpa using hx
              exact hp1)
          have H5 : Hid (orBad bd (plist (pval d') (l1.length + 1) l1) = orBad b3 ((plist (pval d') m' l3).map fun x => ((ps ++ [p]).map (·.2.v) ++ x.1, x.2))) := Lib.hid (by
            rw [HP.out, list_step HPL.out ht, List.map_append]; rfl)
          have H6 : Hid (bd = true → b3 = true) := Lib.hid (fun h => absurd (HBB.out h) (by decide))
          have H7 : Hid (l3.length < m') := Lib.hid (by have := HML.out; omega)
          have H8 : Hid (n + 1 + l3.length ≤ l1.length) := Lib.hid (by have := HLN.out; have := HLE.out; omega)
          have H9 : Hid (leftAt (w6.setCell ⟨vb, 4, none⟩ (.slice ao6 (n + 1) c6)) R < leftAt wr R) := Lib.hid (by rw [hv.rs.left, HV.out.rs.left, HLE.out]; omega)
          clear hv ha hp1 ht hl3 hp HV4d HA4d HV5 HA5 HQ5 HT5 HL3 HV6 HA6
          go_roundw
          case rel => exact ⟨ps ++ [p], l3, b3, m', ao6, c6, n + 1, hn9, H3, H1, H2, H4, H7, H6, H5, H8⟩
          case measure => exact H9.out
  by_cases hk : c = 7
  · subst hk
    have HV0 : Hid (VS n₀ R vb w l1 bd 6 0 0 ⟨#[]⟩ (.slice none 0 0) (.slice none 0 0) wc) := Lib.hid HVS.out
    have HTK : Hid (orBad bad (pval d l) = orBad bd (pbody (d - 1) 7 l1)) := Lib.hid HTD.out
    obtain ⟨g0, -⟩ := HV0.out.cells
    clear HVS HTD hc0 hc1
    have HTP : Hid (pbody (d - 1) 7 l1 = (plist (pent (d - 1)) (l1.length + 1) l1).map fun x => (V.mk 6 0 0 ⟨#[]⟩ [] x.1, x.2)) := Lib.hid (by unfold pent; simp [pbody])
    obtain ⟨d', hdd⟩ : ∃ d', d - 1 = d' := ⟨_, rfl⟩
    obtain ⟨D, hD⟩ : ∃ D : Int, 1001 - (d : Int) = D := ⟨_, rfl⟩
    rw [hD]
    rw [hdd] at HTK HTP
    have hD0 : 0 ≤ D := by omega
    have hD1 : D ≤ 1001 := by omega
    have HDD := Lib.hid hdd
    have HDI := Lib.hid hD
    clear hD hdd
    go_wp2_with fail
    go_loopw [] (fun wr => ∃ (ps : List (ByteArray × Loc)) (l' : List Int) (bad' : Bool) (m : Nat) (ao : Option Addr) (cp n : Nat), n ≤ 100000000 ∧ Hid (ps.length = n) ∧ Hid (VS n₀ R vb w l' bad' 6 0 0 ⟨#[]⟩ (.slice none 0 0) (.slice ao n cp) wr) ∧ Hid (Acc wr vb true 51 (.slice ao n cp) ps) ∧ Hid (l'.length < m) ∧ Hid (bd = true → bad' = true) ∧
      Hid (orBad bd (plist (pent d') (l1.length + 1) l1) = orBad bad' ((plist (pent d') m l').map fun x => ((ps.map fun p => (p.1, p.2.v)) ++ x.1, x.2))) ∧ Hid (n + l'.length ≤ l1.length)) (fun wr => leftAt wr R)
    case atStart => exact ⟨[], l1, bd, l1.length + 1, none, 0, 0, by omega, Lib.hid rfl, HV0, Lib.hid (Acc.nil _ _ _ _), Lib.hid (Nat.lt_succ_self _), Lib.hid id, Lib.hid (by simp), Lib.hid (by omega)⟩
    case round =>
      obtain ⟨ps, l', bad', m, ao, cp, n, hn8, HN, HV, HA, HM, HBB, HP, HLN⟩ := hrel
      obtain ⟨⟨gb, l2, b2⟩, hrm⟩ : ∃ r, rmore l' bad' = r := ⟨_, rfl⟩
      have HMO := Lib.hid (more_any n₀ R l' bad' wr HV.out.rs)
      rw [hrm] at HMO
      have hl2 : l2.length ≤ l'.length := by
        have : (rmore l' bad').2.1.length ≤ l'.length := by cases l' <;> simp [rmore, rbyte]
        rw [hrm] at this; exact this
      have HL2 := Lib.hid hl2
      have HRM := Lib.hid hrm
      clear hrm hl2
      go_wp2_with fail
      (with_reducible refine HMO.out.mono ?_)
      rintro e w4 ⟨rfl, h4, hg4⟩
      have HV4 := Lib.hid (HV.out.call h4 hg4)
      have HA4 := Lib.hid (HA.out.grow hg4 (fun b e => by have := Option.some.inj e; have := HV.out.rb; have := HV.out.lt; omega))
      clear h4 hg4 HMO
      try simp only at HV4 ⊢
      cases gb with
      | false =>
        have hst := more_stop (f := pent d') HRM.out HV.out.rs.bytes HM.out (ps.map fun p => (p.1, p.2.v))
        rw [← HP.out] at hst
        have HTW := Lib.hid (told_map (β := V) hst (fun x => .mk 6 0 0 ⟨#[]⟩ [] x))
        clear hst
        go_upto_region 24 with fail
        obtain ⟨g0, g1, g2, g3, g4, g5, gf⟩ := HV4.out.cells
        obtain ⟨p0, p1, p2, p3, p4, p5, pf⟩ := six_cells HV4.out.res
        have pf0 := pf 0
        have pf1 := pf 1
        have pf2 := pf 2
        have pf3 := pf 3
        have pf4 := pf 4
        have pf5 := pf 5
        clear gf pf
        obtain ⟨W9, hW9, ⟨q0, q1, q2, q3, q4, q5⟩, hpost⟩ := HV4.out.fin (L := []) (E := ps.map fun p => (p.1, p.2.v)) (bad0 := bad) (d := d) (l0 := l) (VAt.table HA4.out HN.out hn8) rfl (by rw [List.length_map]; exact HN.out) (by rw [HTK.out, HTP.out]; exact HTW.out) (Nat.le_trans HL2.out (Nat.le_trans (by have := HLN.out; omega) HLL.out))
        have HP9 := Lib.hid hpost
        have HW9 := Lib.hid hW9
        clear hpost hW9 
        go_wp2_with fail
        rw [← HW9.out]
        exact bodyPost_ret (v := .agg #[.int .i64 6, .int .i64 0, .int .u64 0, .string ⟨#[]⟩, .slice none 0 0, .slice ao n cp]) (by simp [results, Tryd.results28, go_sem, q0, q1, q2, q3, q4, q5]) rfl HP9.out
      | true =>
        obtain ⟨rfl, rfl, hl', m', rfl, hml, hpl⟩ := more_go (f := pent d') HRM.out HM.out
        have hbf : bd = false := by cases bd with | false => rfl | true => exact absurd (HBB.out rfl) (by decide)
        have hd' : d = d' + 1 := by
          have h1 := HDD.out
          rcases HBD.out with h | h
          · rw [hbf] at h; cases h
          · omega
        have hn9 : n + 1 ≤ 100000000 := by have h1 := HLN.out; have h2 := HL.out; rw [hl'] at h1; omega
        have HCH := Lib.hid (rchain_any n₀ R l2 false _ HV4.out.rs (by have h1 := HLN.out; have h2 := HL.out; rw [hl'] at h1; omega))
        go_wp2_with fail
        (with_reducible refine HCH.out.mono ?_)
        rintro e w4 ⟨t, lk, bk, rfl, h4, hg4, htk, htl, hlk⟩
        have HTKK := Lib.hid htk
        have hsz : (strOf t).size ≤ 140737488351232 := by
          have : (strOf t).size = t.length := by show ((t.map _).toArray).size = _; simp
          have h1 := HLN.out; have h2 := HL.out; rw [hl'] at h1; omega
        obtain ⟨s, hs⟩ : ∃ s, strOf t = s := ⟨_, rfl⟩
        have HST := Lib.hid hs
        rw [hs] at hsz
        simp only [hs]
        have HV4 := Lib.hid (HV4.out.call h4 hg4)
        have HA4 := Lib.hid (HA4.out.grow hg4 (fun b e => by have := Option.some.inj e; have := HV.out.rb; have := HV.out.lt; omega))
        have HLK := Lib.hid hlk
        clear h4 hg4 htk htl hlk hs HCH
        have hcall : ∀ W, RdS n₀ W R lk bk → Calls Tryd.prog 28 #[.pointer (some ⟨R, 0, none⟩), .int .i64 (IntKind.i64.wrap (D + 1))] W (ValPost n₀ R d' lk bk W) := fun W hW => by
          have := IH d' hd' n₀ R lk bk W hW (by have h1 := HLN.out; have h2 := HL.out; have h3 := HLK.out; rw [hl'] at h1; omega)
          rw [show IntKind.i64.wrap (D + 1) = 1001 - (d' : Int) by have := HDI.out; simp [IntKind.wrap, IntKind.bits, IntKind.signed]; omega]
          exact this
        have HCALL := Lib.hid hcall
        have HPL := Lib.hid hpl
        have HLE := Lib.hid hl'
        have HML := Lib.hid hml
        have HOB := Lib.hid HA4.out.above
        have HB4 := Lib.hid HV4.out.vlt
        clear hcall hpl hl' hml hbf hd'
        go_upto_region 23 with fail
        have HV4d := Lib.hid HV4.out.drew
        have HA4d : Hid (Acc w4.drew vb true 51 (.slice ao n cp) ps) := Lib.hid (HA4.out.grow (r := none) ⟨rfl, rfl, rfl, Nat.le_refl _, fun _ _ _ => rfl⟩ (fun _ e => absurd e (by simp)))
        have HCd := Lib.hid (HCALL.out w4.drew HV4d.out.rs)
        obtain ⟨-, -, -, -, -, k4, -⟩ := HV4d.out.cells
        clear HA HV4 HA4
        go_region_law (first
          | (go_simp; (with_reducible refine HCd.out.mono ?_); rintro e w5 ⟨q, l3, b3, rfl, hq, h5, hg5, ht5, hl3⟩; have hv5 := HV4d.out.call h5 hg5; obtain ⟨-, -, -, -, -, k5, -⟩ := hv5.cells; obtain ⟨-, -, -, -, -, k5a, -⟩ := (hv5.own (World.grownBy_alloc w5 (.cells #[.string s, .int .i64 q.v.k, .int .i64 q.v.n, .int .u64 q.v.f, .string q.v.s, .slice q.ad q.v.l.length q.cap, .slice q.bd q.v.e.length q.dap] 51) none) (fun b e => absurd e (by simp))).cells; have HV5 := Lib.hid hv5; have HA5 := Lib.hid (HA4d.out.grow hg5 (fun b e => by have := Option.some.inj e; have := HV4d.out.rb; have := HV4d.out.lt; omega)); have HQ5 := Lib.hid (HA4d.out.fresh HB4.out hq); have HT5 := Lib.hid ht5; have HL3 := Lib.hid hl3; clear hq h5 hg5 ht5 hl3 hv5; simp only [Loc.val])
          | (refine step_acc Tryd.underlying24 Tryd.info_ent rfl (by decide) rfl (.tmp 85) (.tmp 92) rfl HA5.out HV5.out.vlt (s, q) HQ5.out hsz _ rfl rfl rfl n HN.out (by omega) ?_; intro ao6 c6 w6 ha6 hg6; have hv6 := HV5.out.own hg6 HOB.out; obtain ⟨-, -, -, -, -, k6, kf⟩ := hv6.cells; have kf6 := kf 5; have HV6 := Lib.hid hv6; have HA6 := Lib.hid ha6; clear ha6 hg6 hv6 kf))
        all_goals
          go_wp2_with fail
          obtain ⟨p, hp⟩ : ∃ p : ByteArray × Loc, (s, q) = p := ⟨_, rfl⟩
          have ht : Told (pent d' l2) (p.1, p.2.v) l3 b3 := by rw [← hp]; show Told (pent d' l2) (s, q.v) l3 b3; rw [← HST.out]; exact told_ent HTKK.out HT5.out
          have hl3 := Nat.le_trans HL3.out HLK.out
          have hv := HV6.out.setE (.slice ao6 (n + 1) c6)
          have ha := HA6.out.grow (grown_cell w6 vb 5 (.slice ao6 (n + 1) c6)) (fun b e => by have := Option.some.inj e; omega)
          rw [hp] at ha
          have H1 := Lib.hid hv
          have H2 := Lib.hid ha
          have H3 : Hid ((ps ++ [p]).length = n + 1) := Lib.hid (by rw [List.length_append, HN.out]; rfl)
          have H5 : Hid (orBad bd (plist (pent d') (l1.length + 1) l1) = orBad b3 ((plist (pent d') m' l3).map fun x => (((ps ++ [p]).map fun p => (p.1, p.2.v)) ++ x.1, x.2))) := Lib.hid (by
            rw [HP.out, list_step HPL.out ht, List.map_append]; rfl)
          have H6 : Hid (bd = true → b3 = true) := Lib.hid (fun h => absurd (HBB.out h) (by decide))
          have H7 : Hid (l3.length < m') := Lib.hid (by have := HML.out; omega)
          have H8 : Hid (n + 1 + l3.length ≤ l1.length) := Lib.hid (by have := HLN.out; have := HLE.out; omega)
          have H9 : Hid (leftAt (w6.setCell ⟨vb, 5, none⟩ (.slice ao6 (n + 1) c6)) R < leftAt wr R) := Lib.hid (by rw [hv.rs.left, HV.out.rs.left, HLE.out]; omega)
          clear hv ha ht hl3 hp HV4d HA4d HV5 HA5 HQ5 HT5 HL3 HV6 HA6
          go_roundw
          case rel => exact ⟨ps ++ [p], l3, b3, m', ao6, c6, n + 1, hn9, H3, H1, H2, H7, H6, H5, H8⟩
          case measure => exact H9.out
  obtain ⟨k, hck⟩ : ∃ k, c - 1 = k := ⟨_, rfl⟩
  have hk0 : -1 ≤ k := by omega
  have hk1 : k ≤ 254 := by omega
  have t0 : (k == 0) = false := by simp; omega
  have t1 : (k == 1) = false := by simp; omega
  have t2 : (k == 2) = false := by simp; omega
  have t3 : (k == 3) = false := by simp; omega
  have t4 : (k == 4) = false := by simp; omega
  have t5 : (k == 5) = false := by simp; omega
  have t6 : (k == 6) = false := by simp; omega
  have hpb : pbody (d - 1) c l1 = none := by
    unfold pbody
    rw [if_neg (by omega), if_neg (by omega), if_neg (by omega), if_neg (by omega), if_neg (by omega), if_neg (by omega), if_neg (by omega)]
  rw [hpb] at HTD
  rw [hck] at HVS g0
  obtain ⟨ad3, c3, -, r1, rf⟩ := HVS.out.rs.cells
  have rf1 := rf 1
  have HV0 := Lib.hid (HVS.out.setBad true)
  have wfk : -9223372036854775808 ≤ k ∧ k ≤ 9223372036854775807 := ⟨by omega, by omega⟩
  clear rf hpb hck
  go_upto_region 24 with fail
  generalize hwe : World.setCell wc ⟨R, 1, none⟩ (.bool true) = we at HV0 ⊢
  clear hwe HVS g0 r1 rf1
  obtain ⟨g0, g1, g2, g3, g4, g5, gf⟩ := HV0.out.cells
  obtain ⟨p0, p1, p2, p3, p4, p5, pf⟩ := six_cells HV0.out.res
  have pf0 := pf 0
  have pf1 := pf 1
  have pf2 := pf 2
  have pf3 := pf 3
  have pf4 := pf 4
  have pf5 := pf 5
  clear gf pf
  obtain ⟨W9, hW9, ⟨q0, q1, q2, q3, q4, q5⟩, hpost⟩ := HV0.out.fin (L := []) (E := []) (bad0 := bad) (d := d) (l0 := l) (VAt.bare wfk.1 wfk.2 (by decide) (by decide) (by decide) (by decide) (by decide)) rfl rfl (by rw [HTD.out]; exact told_none bd _ _) (HLL.out)
  have HP9 := Lib.hid hpost
  have HW9 := Lib.hid hW9
  clear hpost hW9 
  go_wp2_with fail
  rw [← HW9.out]
  exact bodyPost_ret (v := .agg #[.int .i64 k, .int .i64 0, .int .u64 0, .string ⟨#[]⟩, .slice none 0 0, .slice none 0 0]) (by simp [results, Tryd.results28, go_sem, q0, q1, q2, q3, q4, q5]) rfl HP9.out
theorem value_any : ∀ (d : Nat), d ≤ 1001 → ∀ (n₀ R : Nat) (l : List Int) (bad : Bool) (w : World), RdS n₀ w R l bad → l.length ≤ 100000000 → Calls Tryd.prog 28 #[.pointer (some ⟨R, 0, none⟩), .int .i64 (1001 - (d : Int))] w (ValPost n₀ R d l bad w) := by
  intro d
  induction d with
  | zero => intro hd; exact value_step 0 hd (fun d' e => by omega)
  | succ d ih =>
    intro hd
    refine value_step (d + 1) hd (fun d' e => ?_)
    obtain rfl : d' = d := by omega
    exact ih (by omega)
end Go.Proofs.YtmpaaedccodjaaaDoor
