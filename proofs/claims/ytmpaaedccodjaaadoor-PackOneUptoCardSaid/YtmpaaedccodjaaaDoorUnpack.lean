/-
  The contract of Unpack. Conditions: Go's two tables of utf8 lie in the world.
-/
import Derived.Test.YtmpaaedccodjaaaDoorReadValue
import Derived.Test.YtmpaaedccodjaaaDoorCheck3
namespace Go.Proofs.YtmpaaedccodjaaaDoor
open Go.RowKit Go.Shelf Gx
set_option maxRecDepth 100000

/-- what these bytes are read as -/
noncomputable def unpk (l : List Int) : V × Nat :=
  match pval 1001 l with
  | some (v, []) => if chkV v = 0 then (v, 0) else (.zero, chkV v)
  | _ => (.zero, 4)
theorem six_all {W : World} {b : Nat} {ty : TypeId} {a0 a1 a2 a3 a4 a5 : Value} (h : W.heap[b]? = some (.cells #[a0, a1, a2, a3, a4, a5] ty)) (u0 u1 u2 u3 u4 u5 : Value) :
    ∃ W9, W9 = (((((W.setCell ⟨b, 0, none⟩ u0).setCell ⟨b, 1, none⟩ u1).setCell ⟨b, 2, none⟩ u2).setCell ⟨b, 3, none⟩ u3).setCell ⟨b, 4, none⟩ u4).setCell ⟨b, 5, none⟩ u5 ∧
      (W9.cell? ⟨b, 0, none⟩ = some u0 ∧ W9.cell? ⟨b, 1, none⟩ = some u1 ∧ W9.cell? ⟨b, 2, none⟩ = some u2 ∧ W9.cell? ⟨b, 3, none⟩ = some u3 ∧ W9.cell? ⟨b, 4, none⟩ = some u4 ∧ W9.cell? ⟨b, 5, none⟩ = some u5) ∧
      (∀ B w, Below B w W → B ≤ b → Below B w W9) ∧ ∀ B q, VAt W B q → ¬ B b → VAt W9 B q := by
  have h0 : (W.setCell ⟨b, 0, none⟩ u0).heap[b]? = some (.cells #[u0, a1, a2, a3, a4, a5] ty) := six_store h 0 u0
  have h1 : ((W.setCell ⟨b, 0, none⟩ u0).setCell ⟨b, 1, none⟩ u1).heap[b]? = some (.cells #[u0, u1, a2, a3, a4, a5] ty) := six_store h0 1 u1
  have h2 : (((W.setCell ⟨b, 0, none⟩ u0).setCell ⟨b, 1, none⟩ u1).setCell ⟨b, 2, none⟩ u2).heap[b]? = some (.cells #[u0, u1, u2, a3, a4, a5] ty) := six_store h1 2 u2
  have h3 : ((((W.setCell ⟨b, 0, none⟩ u0).setCell ⟨b, 1, none⟩ u1).setCell ⟨b, 2, none⟩ u2).setCell ⟨b, 3, none⟩ u3).heap[b]? = some (.cells #[u0, u1, u2, u3, a4, a5] ty) := six_store h2 3 u3
  have h4 : (((((W.setCell ⟨b, 0, none⟩ u0).setCell ⟨b, 1, none⟩ u1).setCell ⟨b, 2, none⟩ u2).setCell ⟨b, 3, none⟩ u3).setCell ⟨b, 4, none⟩ u4).heap[b]? = some (.cells #[u0, u1, u2, u3, u4, a5] ty) := six_store h3 4 u4
  have h5 : ((((((W.setCell ⟨b, 0, none⟩ u0).setCell ⟨b, 1, none⟩ u1).setCell ⟨b, 2, none⟩ u2).setCell ⟨b, 3, none⟩ u3).setCell ⟨b, 4, none⟩ u4).setCell ⟨b, 5, none⟩ u5).heap[b]? = some (.cells #[u0, u1, u2, u3, u4, u5] ty) := six_store h4 5 u5
  obtain ⟨c0, c1, c2, c3, c4, c5, -⟩ := six_cells h5
  refine ⟨_, rfl, ⟨c0, c1, c2, c3, c4, c5⟩, fun B w hb hB => (((((hb.setCell hB u0).setCell hB u1).setCell hB u2).setCell hB u3).setCell hB u4).setCell hB u5, fun B q hq hn => ?_⟩
  have hh : ∀ b', some b = some b' → ¬ B b' := fun b' e => by cases e; exact hn
  exact (((((hq.grow (grown_cell _ _ 0 u0) hh).grow (grown_cell _ _ 1 u1) hh).grow (grown_cell _ _ 2 u2) hh).grow (grown_cell _ _ 3 u3) hh).grow (grown_cell _ _ 4 u4) hh).grow (grown_cell _ _ 5 u5) hh
def UnpPost (l : List Int) (w : World) (e : Ending) (w' : World) : Prop :=
  ∃ q, e = .returned (.tuple #[Loc.val q, .int .i64 (unpk l).2]) ∧ VAt w' (fun b => w.heap.size ≤ b) q ∧ Below w.heap.size w w' ∧ q.v = (unpk l).1
set_option maxHeartbeats 4000000 in
theorem Unpack_any (ad : Option Addr) (c : Nat) (l : List Int) (w : World) (hT : Tabs w) (h : Rd .u8 w ad c l) (hl : l.length ≤ 100000000) : Calls Tryd.prog 13 #[.slice ad l.length c] w (UnpPost l w) := by
  have hb1 : Below w.heap.size w (w.alloc (.cells #[.int .i64 0, .int .i64 0, .int .u64 0, .string ⟨#[]⟩, .slice none 0 0, .slice none 0 0] 26)) := (Below.refl _ w).alloc (Nat.le_refl _) _
  have hz1 : (w.alloc (.cells #[.int .i64 0, .int .i64 0, .int .u64 0, .string ⟨#[]⟩, .slice none 0 0, .slice none 0 0] 26)).heap.size = w.heap.size + 1 := by simp
  have hb2 := hb1.alloc hb1.size (.cells #[.slice ad l.length c, .bool false] 57)
  have hr1 := heap_alloc_new w (.cells #[.int .i64 0, .int .i64 0, .int .u64 0, .string ⟨#[]⟩, .slice none 0 0, .slice none 0 0] 26)
  have hr2 := (heap_alloc_old (w.alloc (.cells #[.int .i64 0, .int .i64 0, .int .u64 0, .string ⟨#[]⟩, .slice none 0 0, .slice none 0 0] 26)) (.cells #[.slice ad l.length c, .bool false] 57) (show w.heap.size < _ by omega)).trans hr1
  have hr3 := heap_alloc_new (w.alloc (.cells #[.int .i64 0, .int .i64 0, .int .u64 0, .string ⟨#[]⟩, .slice none 0 0, .slice none 0 0] 26)) (.cells #[.slice ad l.length c, .bool false] 57)
  rw [hz1] at hr3
  have hz2 : ((w.alloc (.cells #[.int .i64 0, .int .i64 0, .int .u64 0, .string ⟨#[]⟩, .slice none 0 0, .slice none 0 0] 26)).alloc (.cells #[.slice ad l.length c, .bool false] 57)).heap.size = w.heap.size + 2 := by simp
  have HT := Lib.hid hT
  have H := Lib.hid h
  clear hT h
  go_enter Tryd.func13, Tryd.ntmps13
  go_upto_region 2 with fail
  generalize hw2 : World.alloc (World.alloc w _) _ = w2 at hb2 hr2 hr3 hz2 ⊢
  clear hw2 hb1 hr1 hz1
  have hRS : RdS (w.heap.size + 2) w2 (w.heap.size + 1) l false := ⟨⟨ad, c, hr3, H.out.keep hb2, fun a ha hp => ⟨by have := (H.out.at_ a ha hp).2.1; omega, by have := (H.out.at_ a ha hp).2.1; omega⟩⟩, by omega, by omega⟩
  have hval := value_any 1001 (by decide) _ _ l false w2 hRS hl
  rw [show (1001 - ((1001 : Nat) : Int)) = 0 from rfl] at hval
  have HVL := Lib.hid hval
  have HB2 := Lib.hid hb2
  have HR2 := Lib.hid hr2
  have HZ2 := Lib.hid hz2
  obtain ⟨u, hu⟩ : ∃ u, unpk l = u := ⟨_, rfl⟩
  have HU := Lib.hid hu
  clear hval hb2 hr2 hr3 hz2 hRS hu
  go_wp2_with fail
  (with_reducible refine HVL.out.mono ?_)
  rintro e w3 ⟨q, l', bad', rfl, hq, hrs, hg, ht, -⟩
  have hlt3 : w.heap.size < w3.heap.size := by have := hg.size; have := HZ2.out; omega
  have hb3 : Below w.heap.size w w3 := HB2.out.grown hg HB2.out.size (fun k e => by have := Option.some.inj e; omega)
  have hr3 := (hg.block w.heap.size (by have := HZ2.out; omega) (fun e => by have := Option.some.inj e; omega)).trans HR2.out
  have hba := (Below.refl w3.heap.size w3).alloc (Nat.le_refl _) (.cells #[.int .i64 q.v.k, .int .i64 q.v.n, .int .u64 q.v.f, .string q.v.s, .slice q.ad q.v.l.length q.cap, .slice q.bd q.v.e.length q.dap] 26)
  have hb4 := hb3.trans (hba.mono (Nat.le_of_lt hlt3))
  have hr4 := (hba.block _ hlt3).trans hr3
  have hrs4 := hrs.keep hba
  have hq4 := (hq.keep hba).weak (C := fun b => w.heap.size + 1 ≤ b) (fun b hb _ => by have := HZ2.out; omega)
  have hbx := heap_alloc_new w3 (.cells #[.int .i64 q.v.k, .int .i64 q.v.n, .int .u64 q.v.f, .string q.v.s, .slice q.ad q.v.l.length q.cap, .slice q.bd q.v.e.length q.dap] 26)
  simp only [Loc.val]
  go_upto_region 3 with fail
  generalize hw4 : World.alloc w3 _ = w4 at hb4 hr4 hrs4 hq4 hbx ⊢
  generalize hvb : w3.heap.size = vb at hbx ⊢
  obtain ⟨ad4, c4, r0, r1, -⟩ := hrs4.cells
  obtain ⟨g0, g1, g2, g3, g4, g5, -⟩ := six_cells hbx
  have HR4 := Lib.hid hr4
  have HB4 := Lib.hid hb4
  have HQ4 := Lib.hid hq4
  have HT4 := Lib.hid ht
  clear hw4 hvb hb3 hr3 hba hb4 hr4 hrs4 hq4 hbx hlt3 hrs hq hg ht HVL HR2
  cases hpv : pval 1001 l with
  | none =>
    have ht := HT4.out
    rw [hpv] at ht
    obtain rfl : bad' = true := ht
    have HUZ : Hid (u = (.zero, 4)) := Lib.hid (by rw [← HU.out, unpk, hpv])
    obtain ⟨p0, p1, p2, p3, p4, p5, pf⟩ := six_cells HR4.out
    have pf0 := pf 0
    have pf1 := pf 1
    have pf2 := pf 2
    have pf3 := pf 3
    have pf4 := pf 4
    have pf5 := pf 5
    obtain ⟨W9, hW9, ⟨q0, q1, q2, q3, q4, q5⟩, hbw, hvw⟩ := six_all HR4.out (.int .i64 0) (.int .i64 0) (.int .u64 0) (.string ⟨#[]⟩) (.slice none 0 0) (.slice none 0 0)
    have HW9 := Lib.hid hW9
    have HBW := Lib.hid hbw
    clear hW9 hbw hvw pf
    go_wp2_with fail
    rw [← HW9.out]
    exact bodyPost_ret (v := .tuple #[.agg #[.int .i64 0, .int .i64 0, .int .u64 0, .string ⟨#[]⟩, .slice none 0 0, .slice none 0 0], .int .i64 4]) (by simp [results, Tryd.results13, go_sem, q0, q1, q2, q3, q4, q5]) rfl
      ⟨⟨.zero, none, 0, none, 0⟩, by rw [HU.out, HUZ.out]; rfl, VAt.zero _ _ _ _ _ _, HBW.out _ _ HB4.out (Nat.le_refl _), by rw [HU.out, HUZ.out]⟩
  | some r =>
    obtain ⟨v, rest⟩ := r
    have ht := HT4.out
    rw [hpv] at ht
    obtain ⟨hqv, hlr, hbf⟩ := ht
    simp only at hqv hlr hbf
    subst hlr
    subst hbf
    have HQV := Lib.hid hqv
    clear hqv HT4
    cases hrest : l' with
    | cons x xs =>
      have HUZ : Hid (u = (.zero, 4)) := Lib.hid (by rw [← HU.out, unpk, hpv, hrest])
      obtain ⟨n, hn⟩ : ∃ n, l'.length = n := ⟨_, rfl⟩
      have hn0 : 0 < n := by rw [← hn, hrest]; simp
      have t1 : decide ((0 : Int) < (n : Int)) = true := decide_eq_true (by omega)
      rw [hn] at r0
      clear hn hpv hrest
      obtain ⟨p0, p1, p2, p3, p4, p5, pf⟩ := six_cells HR4.out
      have pf0 := pf 0
      have pf1 := pf 1
      have pf2 := pf 2
      have pf3 := pf 3
      have pf4 := pf 4
      have pf5 := pf 5
      obtain ⟨W9, hW9, ⟨q0, q1, q2, q3, q4, q5⟩, hbw, hvw⟩ := six_all HR4.out (.int .i64 0) (.int .i64 0) (.int .u64 0) (.string ⟨#[]⟩) (.slice none 0 0) (.slice none 0 0)
      have HW9 := Lib.hid hW9
      have HBW := Lib.hid hbw
      clear hW9 hbw hvw pf
      go_wp2_with fail
      rw [← HW9.out]
      exact bodyPost_ret (v := .tuple #[.agg #[.int .i64 0, .int .i64 0, .int .u64 0, .string ⟨#[]⟩, .slice none 0 0, .slice none 0 0], .int .i64 4]) (by simp [results, Tryd.results13, go_sem, q0, q1, q2, q3, q4, q5]) rfl
        ⟨⟨.zero, none, 0, none, 0⟩, by rw [HU.out, HUZ.out]; rfl, VAt.zero _ _ _ _ _ _, HBW.out _ _ HB4.out (Nat.le_refl _), by rw [HU.out, HUZ.out]⟩
    | nil =>
      subst hrest
      obtain ⟨k, hk⟩ : ∃ k, chkV v = k := ⟨_, rfl⟩
      have HUV : Hid (u = if k = 0 then (v, 0) else (.zero, k)) := Lib.hid (by rw [← HU.out, unpk, hpv]; simp only [hk])
      have hck := Check_any q w4 (HT.out.keep HB4.out) (HQ4.out.weak (fun _ _ _ => trivial))
      have hk' : chkV q.v = k := by rw [HQV.out]; exact hk
      simp only [Loc.val, hk'] at hck
      have HCK := Lib.hid hck
      have hlt4 : w.heap.size < w4.heap.size := (Array.getElem?_eq_some_iff.1 HR4.out).1
      have hvlt : vb < w4.heap.size := World.block_lt_of_cell? _ _ g0
      rw [List.length_nil] at r0
      clear hck hk hk' hpv
      go_wp2_with fail
      (with_reducible refine HCK.out.mono ?_)
      rintro e w5 ⟨rfl, hb5⟩
      have hr5 := (hb5.block _ hlt4).trans HR4.out
      have hb45 := HB4.out.trans (hb5.mono (Nat.le_of_lt hlt4))
      obtain ⟨d0, d1, d2, d3, d4, d5⟩ := (show CellsAt w4 vb 0 q from ⟨g0, g1, g2, g3, g4, g5⟩).through (hb5.block _ hvlt)
      have HQ5 := Lib.hid (HQ4.out.keep hb5)
      have HR5 := Lib.hid hr5
      have HB5 := Lib.hid hb45
      clear hb5 hr5 hb45 g0 g1 g2 g3 g4 g5 r0 r1 HR4 HB4 HQ4 HCK
      by_cases h0 : k = 0
      · subst h0
        have HUZ : Hid (u = (v, 0)) := Lib.hid (by rw [HUV.out, if_pos rfl])
        obtain ⟨p0, p1, p2, p3, p4, p5, pf⟩ := six_cells HR5.out
        have pf0 := pf 0
        have pf1 := pf 1
        have pf2 := pf 2
        have pf3 := pf 3
        have pf4 := pf 4
        have pf5 := pf 5
        obtain ⟨W9, hW9, ⟨q0, q1, q2, q3, q4, q5⟩, hbw, hvw⟩ := six_all HR5.out (.int .i64 q.v.k) (.int .i64 q.v.n) (.int .u64 q.v.f) (.string q.v.s) (.slice q.ad q.v.l.length q.cap) (.slice q.bd q.v.e.length q.dap)
        have HW9 := Lib.hid hW9
        have HBW := Lib.hid hbw
        have HVW := Lib.hid hvw
        clear hW9 hbw hvw pf
        go_wp2_with fail
        rw [← HW9.out]
        exact bodyPost_ret (v := .tuple #[.agg #[.int .i64 q.v.k, .int .i64 q.v.n, .int .u64 q.v.f, .string q.v.s, .slice q.ad q.v.l.length q.cap, .slice q.bd q.v.e.length q.dap], .int .i64 0]) (by simp [results, Tryd.results13, go_sem, q0, q1, q2, q3, q4, q5]) rfl
          ⟨q, by rw [HU.out, HUZ.out]; rfl, (HVW.out _ _ HQ5.out (by omega)).weak (fun b hb _ => by omega), HBW.out _ _ HB5.out (Nat.le_refl _), by rw [HU.out, HUZ.out]; exact HQV.out⟩
      · have HUZ : Hid (u = (.zero, k)) := Lib.hid (by rw [HUV.out, if_neg h0])
        have t2 : ((k : Int) != 0) = true := by simpa using h0
        have t3 : ((k : Int) == 0) = false := by simpa using h0
        obtain ⟨p0, p1, p2, p3, p4, p5, pf⟩ := six_cells HR5.out
        have pf0 := pf 0
        have pf1 := pf 1
        have pf2 := pf 2
        have pf3 := pf 3
        have pf4 := pf 4
        have pf5 := pf 5
        obtain ⟨W9, hW9, ⟨q0, q1, q2, q3, q4, q5⟩, hbw, hvw⟩ := six_all HR5.out (.int .i64 0) (.int .i64 0) (.int .u64 0) (.string ⟨#[]⟩) (.slice none 0 0) (.slice none 0 0)
        have HW9 := Lib.hid hW9
        have HBW := Lib.hid hbw
        have HVW := Lib.hid hvw
        clear hW9 hbw hvw pf
        go_wp2_with fail
        rw [← HW9.out]
        exact bodyPost_ret (v := .tuple #[.agg #[.int .i64 0, .int .i64 0, .int .u64 0, .string ⟨#[]⟩, .slice none 0 0, .slice none 0 0], .int .i64 k]) (by simp [results, Tryd.results13, go_sem, q0, q1, q2, q3, q4, q5]) rfl
          ⟨⟨.zero, none, 0, none, 0⟩, by rw [HU.out, HUZ.out]; rfl, VAt.zero _ _ _ _ _ _, HBW.out _ _ HB5.out (Nat.le_refl _), by rw [HU.out, HUZ.out]⟩
end Go.Proofs.YtmpaaedccodjaaaDoor
