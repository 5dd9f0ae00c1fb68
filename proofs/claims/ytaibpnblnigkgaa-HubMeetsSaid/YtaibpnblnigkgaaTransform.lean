/-
  The contract of splice.Transform. Conditions: the parts lie where the arguments say.
-/
import Derived.Test.YtaibpnblnigkgaaTransObj
namespace Go.Proofs.Ytaibpnblnigkgaa
open Go.RowKit Gx

/-- what Transform hands back: both, or that one is too large -/
def TransPost (R1 R2 : List Part) (w : World) (e : Ending) (w' : World) : Prop :=
  (chk R1 = 0 ∧ chk R2 = 0 → ∃ mo mc no nc, e = .returned (.tuple #[.slice mo R1.length mc, .slice no R2.length nc, .int .i64 0]) ∧ (PR w' mo mc R1 ∧ ∀ a, mo = some a → w.heap.size ≤ a.block) ∧ (PR w' no nc R2 ∧ ∀ a, no = some a → w.heap.size ≤ a.block) ∧ Below w.heap.size w w') ∧
  (¬ (chk R1 = 0 ∧ chk R2 = 0) → e = .returned (.tuple #[.slice none 0 0, .slice none 0 0, .int .i64 2]) ∧ Below w.heap.size w w')

theorem keepOk (n : Nat) : okP (1, (n : Int), []) := ⟨.inl rfl, by simp, fun h => by simp at h, fun _ => rfl⟩

set_option maxHeartbeats 16000000 in
set_option maxRecDepth 100000 in
theorem Transform_any (ad bd : Option Addr) (ca cb : Nat) (l m : List Part) (w : World) (h : PR w ad ca l) (g : PR w bd cb m) (hl : chk l = 0) (hm : chk m = 0) (hmo : U.over (ex l) = U.over (ex m)) :
    Calls Try.prog 30 #[.slice ad l.length ca, .slice bd m.length cb] w (TransPost (nf (tr (ex (nf (ex l))) (ex (nf (ex m)))).1) (nf (tr (ex (nf (ex l))) (ex (nf (ex m)))).2) w) := by
  have H1 := both_ok ad bd ca cb l m w h g hl hm
  have H2 := fun w0 (hb : Below w.heap.size w w0) => check_ok ad ca l w0 (h.keep hb) hl
  have H3 := fun w0 (hb : Below w.heap.size w w0) => check_ok bd cb m w0 (g.keep hb) hm
  rw [← hmo] at H3
  have s1 := same_nf (ex l)
  have s2 := same_nf (ex m)
  have hAB : U.over (ex (nf (ex l))) = U.over (ex (nf (ex m))) := by rw [s1.over, s2.over, hmo]
  obtain ⟨-, -, oA, mA⟩ := chk_zero.1 (chk_nf hl)
  obtain ⟨-, -, oB, mB⟩ := chk_zero.1 (chk_nf hm)
  have lA := len_le (ex (nf (ex l)))
  have lB := len_le (ex (nf (ex m)))
  have ST0 : TrSt (ex (nf (ex l))) (ex (nf (ex m))) [] [] (nf (ex l)) (nf (ex m)) := ⟨rfl, hAB, nz_nf _, nz_nf _, Nat.le_refl _, Nat.le_refl _⟩
  obtain ⟨X, hX⟩ : ∃ A, A = nf (ex l) := ⟨_, rfl⟩
  obtain ⟨Y, hY⟩ : ∃ A, A = nf (ex m) := ⟨_, rfl⟩
  rw [← hX, ← hY] at H1
  rw [← hX, ← hY] at ST0 hAB
  rw [← hX] at oA mA lA
  rw [← hY] at oB mB lB
  rw [← hX, ← hY]
  obtain ⟨A, hA⟩ : ∃ A, A = ex X := ⟨_, rfl⟩
  obtain ⟨B, hB⟩ : ∃ A, A = ex Y := ⟨_, rfl⟩
  rw [← hA, ← hB] at ST0 hAB
  rw [← hA] at oA mA lA
  rw [← hB] at oB mB lB
  rw [← hA, ← hB]
  obtain ⟨o1, ho1⟩ : ∃ A, A = U.over (ex l) := ⟨_, rfl⟩
  obtain ⟨m1, hm1⟩ : ∃ A, A = U.makes (ex l) := ⟨_, rfl⟩
  obtain ⟨m2, hm2⟩ : ∃ A, A = U.makes (ex m) := ⟨_, rfl⟩
  obtain ⟨n, hn⟩ : ∃ A, A = l.length := ⟨_, rfl⟩
  obtain ⟨k, hk⟩ : ∃ A, A = m.length := ⟨_, rfl⟩
  rw [← hn, ← hk] at H1 ⊢
  rw [← ho1, ← hm1, ← hn] at H2
  rw [← ho1, ← hm2, ← hk] at H3
  replace H1 := Lib.hid H1
  replace H2 := Lib.hid H2
  replace H3 := Lib.hid H3
  have HS := Lib.hid ST0
  have HAB := Lib.hid hAB
  clear h g hl hm hmo s1 s2 hX hY hA hB ho1 hm1 hm2 hn hk ST0 hAB
  have lA2 : A.length ≤ 40000 := by omega
  have lB2 : B.length ≤ 40000 := by omega
  clear lA lB
  go_enter Try.func30, Try.ntmps30
  go_wp2_with fail
  refine H1.out.mono ?_
  rintro e w1 ⟨gx, gy, lx, hx, ly, hy, rfl, hfx, hfy, hb0, hxy, hb⟩
  have FX1 := Lib.hid hfx
  have FY1 := Lib.hid hfy
  have B1 := Lib.hid hb
  clear hfx hfy hb H1
  go_wp2_with fail
  refine (H2.out w1 B1.out).mono ?_
  rintro e w2 ⟨rfl, hb⟩
  have FX2 := Lib.hid (FX1.out.below hb)
  have FY2 := Lib.hid (FY1.out.below hb)
  have B2 := Lib.hid (B1.out.trans (hb.mono B1.out.size))
  clear hb B1 FX1 FY1 H2
  go_wp2_with fail
  refine (H3.out w2 B2.out).mono ?_
  rintro e w3 ⟨rfl, hb⟩
  have FX3 := Lib.hid (FX2.out.below hb)
  have FY3 := Lib.hid (FY2.out.below hb)
  have B3 := Lib.hid (B2.out.trans (hb.mono B2.out.size))
  clear hb B2 FX2 FY2 H3
  have hbd := init_bd w3
  obtain ⟨w4, hw4⟩ : ∃ w4, w4 = w3.alloc (.cells #[.slice none 0 0, .int .i64 0, .string ⟨#[]⟩] 86) := ⟨_, rfl⟩
  have h34 : Below w3.heap.size w3 w4 := by rw [hw4]; exact (Below.refl _ w3).alloc (Nat.le_refl _) _
  have hsz4 : w4.heap.size = w3.heap.size + 1 := by rw [hw4]; simp
  rw [← hw4] at hbd
  have hbd2 := init_bd w4
  obtain ⟨w5, hw5⟩ : ∃ w5, w5 = w4.alloc (.cells #[.slice none 0 0, .int .i64 0, .string ⟨#[]⟩] 86) := ⟨_, rfl⟩
  have h45 : Below w4.heap.size w4 w5 := by rw [hw5]; exact (Below.refl _ w4).alloc (Nat.le_refl _) _
  rw [← hw5] at hbd2
  rw [hsz4] at hbd2
  have hyt := FY3.out.top
  have hb35 : Below w.heap.size w w5 := (B3.out.trans (h34.mono B3.out.size)).trans (h45.mono (Nat.le_trans B3.out.size h34.size))
  have hbd1' := hbd.keep (S := fun _ => False) (Chg.of_below h45) (fun _ _ f => f)
  have hbd2' : Bd w5 w3.heap.size (fun k => k = w3.heap.size + 1) (w3.heap.size + 1) (stU []) (.slice none 0 0) := ⟨hbd2.cells, own_weaken hbd2.own (Nat.le_succ _), hbd2.ne, hbd2.fg, hbd2.fv, fun k hk => ⟨Nat.le_trans (Nat.le_succ _) (hbd2.low k hk).1, (hbd2.low k hk).2⟩⟩
  have hcm : CM2 w.heap.size lx hx gx ly hy gy w3.heap.size w3.heap.size (w3.heap.size + 1) w w5 X Y _ (stU []) (.slice none 0 0) _ (stU []) (.slice none 0 0) :=
    ⟨(FX3.out.below h34).below h45, (FY3.out.below h34).below h45, hbd1', hbd2', fun k h1 h2 => by omega, hb35, hb0, hxy, hyt, Nat.le_refl _⟩
  have HCM := Lib.hid hcm
  have HW : Hid (w5 = (w3.alloc (.cells #[.slice none 0 0, .int .i64 0, .string ⟨#[]⟩] 86)).alloc (.cells #[.slice none 0 0, .int .i64 0, .string ⟨#[]⟩] 86)) := by show _ = _; rw [hw5, hw4]
  clear hbd hbd2 hbd1' hbd2' h34 h45 hb35 hcm hyt hb0 hxy FX3 FY3 B3 hsz4
  clear hw5 hw4
  go_wp2
  rw [← HW.out]
  clear HW
  go_loopw [20] (fun u20 wr => ∃ (us vs : List U) (rx ry : List Part) (F1 : Nat → Prop) (v1 : Value) (F2 : Nat → Prop) (v2 : Value), Hid (CM2 w.heap.size lx hx gx ly hy gy w3.heap.size w3.heap.size (w3.heap.size + 1) w wr rx ry F1 (stU us) v1 F2 (stU vs) v2) ∧ Hid (TrSt A B us vs rx ry))
    (fun _ wr => lenOf ((wr.cell? ⟨gx, 0, none⟩).getD (.int .i64 0)) + lenOf ((wr.cell? ⟨gy, 0, none⟩).getD (.int .i64 0)))
  case atStart => exact ⟨[], [], X, Y, _, _, _, _, HCM, HS⟩
  case round =>
    obtain ⟨us, vs, rx, ry, F1, v1, F2, v2, HC, HT⟩ := hrel
    clear HCM HS
    have hmeas := Lib.hid (show lenOf ((wr.cell? ⟨gx, 0, none⟩).getD (.int .i64 0)) + lenOf ((wr.cell? ⟨gy, 0, none⟩).getD (.int .i64 0)) = rx.length + ry.length by rw [HC.out.x.len, HC.out.y.len])
    obtain ⟨⟨kx, Nx, sx⟩, hpx⟩ : ∃ q, q = headP rx := ⟨_, rfl⟩
    obtain ⟨⟨ky, Ny, sy⟩, hpy⟩ : ∃ q, q = headP ry := ⟨_, rfl⟩
    have hsm := HT.out.small HAB.out
    have hus : U.over us + U.makes us ≤ 60000 ∧ U.over vs + U.makes vs ≤ 60000 := by omega
    have HUS := Lib.hid hus
    clear hsm hus
    have hlx := Nat.le_trans HT.out.lx lA2
    have hly := Nat.le_trans HT.out.ly lB2
    have hfd := field_kind
    by_cases hk2 : kx = 3
    · subst hk2
      obtain ⟨rx', rfl⟩ := headP_cons hpx (by simp)
      obtain ⟨hq, hql, hq1, hq2⟩ := part_bd HT.out.nx (List.mem_cons_self) hlx
      obtain ⟨N, hN⟩ : ∃ N, N = (ex1 (3, Nx, sx)).length := ⟨_, rfl⟩
      have hsm1 := Lib.hid (small_of us (3, Nx, sx) (by have := HUS.out; omega) hq1 hq2)
      have hsm2 := Lib.hid (small_of vs (1, (N : Int), []) (by have := HUS.out; omega) (by simp only; omega) (by simp))
      have hst1 := Lib.hid (stU_add us (3, Nx, sx) hq)
      have hst2 := Lib.hid (stU_add vs (1, (N : Int), []) (keepOk N))
      have hT2 := HT.out.put1 rfl
      rw [← hN] at hT2
      have HT2 := Lib.hid hT2
      have hN4 : N ≤ 40000 := by omega
      have HN := Lib.hid hN
      have HQ := Lib.hid hq
      have HPY := Lib.hid hpy
      have hq1' := Lib.hid hq1
      have hq2' := Lib.hid hq2
      clear hq hN hpx hpy hql hlx hly hq1 hq2 HT hT2
      go_wp2_with fail
      refine (next_q wr lx hx gx _ (3, Nx, sx) HC.out.x rfl).mono ?_
      rintro e w5 ⟨rfl, hb⟩
      have C5 := Lib.hid (HC.out.below hb)
      clear hb
      go_wp2_with fail
      refine (next_q w5 lx hx gx _ (3, Nx, sx) C5.out.x rfl).mono ?_
      rintro e w7 ⟨rfl, hb⟩
      have C7 := Lib.hid (C5.out.below hb)
      clear hb
      go_wp2_with fail
      refine (next_q w7 ly hy gy _ (ky, Ny, sy) C7.out.y HPY.out.symm).mono ?_
      rintro e w8 ⟨rfl, hb⟩
      have C8 := Lib.hid (C7.out.below hb)
      have C9 := Lib.hid ((C8.out.below (box_below w8 (3, Nx, sx))).below (box_below _ (ky, Ny, sy)))
      have X9 := Lib.hid (boxes_init w8 (3, Nx, sx) (ky, Ny, sy))
      clear hb
      go_wp2_with fail
      refine (size_ex _ (3, Nx, sx) N HQ.out hq1'.out hq2'.out HN.out.symm).mono ?_
      rintro e w9 ⟨rfl, rfl⟩
      have C10 := Lib.hid (C9.out.below (box_below _ (3, Nx, sx)))
      have X10 := Lib.hid (X9.out.chg (S := fun _ => False) (Chg.of_below (box_below _ (3, Nx, sx))) (fun f => f) (fun f => f))
      go_wp2_with fail
      refine (take_all _ lx hx gx (3, Nx, sx) rx' N C10.out.x HQ.out hq1'.out hq2'.out HN.out).mono ?_
      rintro e w10 ⟨rfl, hf, hch⟩
      have C11 := Lib.hid (C10.out.tookX hf hch)
      have hl1 := C8.out.base_le
      have hl2 := C8.out.l2
      have hl3 := C8.out.l1
      have hl4 := C8.out.y.lg
      have X11 := Lib.hid (X10.out.chg hch (fun h => by omega) (fun h => by omega))
      have hF1 := fun h => Nat.lt_irrefl _ (C8.out.b1.low w8.heap.size h).2
      have hF1' := fun h => Nat.lt_irrefl _ (Nat.lt_trans (Nat.lt_succ_self _) (C8.out.b1.low (w8.heap.size + 1) h).2)
      have HF1 := Lib.hid hF1
      have HF1' := Lib.hid hF1'
      clear hf hch hF1 hF1' hl1 hl2 hl3 hl4
      go_wp2_with fail
      refine (add_any _ _ F1 _ _ v1 (3, Nx, sx) C11.out.b1 C11.out.base_le HQ.out hsm1.out).mono ?_
      rintro e w11 ⟨rfl, F3, v3, hb2, hF2, hc2⟩
      rw [hst1.out] at hb2
      have C12 := Lib.hid (C11.out.added1 hb2 hF2 hc2)
      have X12 := X11.out.chg hc2 HF1.out HF1'.out
      have c0 := X12.c0
      have c1 := X12.c1
      have c2 := X12.c2
      have lt := X12.lt
      simp only at c0 c1 c2
      clear hb2 hF2 hc2 HC C5 C7 C8 C9 C10 C11 X9 X10 X11 X12 HF1 HF1'
      go_wp2_with fail
      refine (size_ex _ (3, Nx, sx) N HQ.out hq1'.out hq2'.out HN.out.symm).mono ?_
      rintro e w12 ⟨rfl, rfl⟩
      have C13 := Lib.hid (C12.out.below (box_below _ (3, Nx, sx)))
      clear c0 c1 c2 lt
      go_wp2_with fail
      refine (add_any _ _ F2 _ _ v2 (1, (N : Int), []) C13.out.b2 C13.out.base_le (keepOk N) hsm2.out).mono ?_
      rintro e w13 ⟨rfl, F4, v4, hb2, hF2, hc2⟩
      rw [hst2.out] at hb2
      have C14 := Lib.hid (C13.out.added2 hb2 hF2 hc2)
      clear hb2 hF2 hc2 C12 C13
      go_wp2
      go_roundw
      case rel => exact ⟨_, _, rx', ry, F3, v3, F4, v4, C14, HT2⟩
      case measure => rw [C14.out.x.len, C14.out.y.len, hmeas.out]; simp
    obtain ⟨hx33, hx34, hx35⟩ := kne hk2
    by_cases hk3 : ky = 3
    · subst hk3
      obtain ⟨ry', rfl⟩ := headP_cons hpy (by simp)
      obtain ⟨hq, hql, hq1, hq2⟩ := part_bd HT.out.ny (List.mem_cons_self) hly
      obtain ⟨N, hN⟩ : ∃ N, N = (ex1 (3, Ny, sy)).length := ⟨_, rfl⟩
      have hsm1 := Lib.hid (small_of vs (3, Ny, sy) (by have := HUS.out; omega) hq1 hq2)
      have hsm2 := Lib.hid (small_of us (1, (N : Int), []) (by have := HUS.out; omega) (by simp only; omega) (by simp))
      have hst1 := Lib.hid (stU_add vs (3, Ny, sy) hq)
      have hst2 := Lib.hid (stU_add us (1, (N : Int), []) (keepOk N))
      have hT2 := HT.out.put2 rfl (by rw [← hpx]; exact hk2)
      rw [← hN] at hT2
      have HT2 := Lib.hid hT2
      have hN4 : N ≤ 40000 := by omega
      have HN := Lib.hid hN
      have HQ := Lib.hid hq
      have HPX := Lib.hid hpx
      have hq1' := Lib.hid hq1
      have hq2' := Lib.hid hq2
      clear hq hN hpx hpy hql hlx hly hq1 hq2 HT hT2 hk2
      rcases kz kx 0 with ⟨hk0, hc3, hc4, hc5⟩ | ⟨hk0, hc3, hc4, hc5⟩
      all_goals
        have HK0 := Lib.hid hk0
        clear hk0
        go_wp2_with fail
        refine (next_q wr lx hx gx rx (kx, Nx, sx) HC.out.x HPX.out.symm).mono ?_
        rintro e w5 ⟨rfl, hb⟩
        have C5 := Lib.hid (HC.out.below hb)
        clear hb
        go_wp2_with fail
        first
          | (have hz : kx = 0 := HK0.out
             clear hz
             refine (next_q w5 ly hy gy _ (3, Ny, sy) C5.out.y rfl).mono ?_
             rintro e w6 ⟨rfl, hb⟩
             have C6 := Lib.hid (C5.out.below hb)
             clear hb
             go_wp2_with fail)
          | have C6 := C5
        clear hc3 hc4 hc5
        refine (next_q _ lx hx gx rx (kx, Nx, sx) C6.out.x HPX.out.symm).mono ?_
        rintro e w7 ⟨rfl, hb⟩
        have C7 := Lib.hid (C6.out.below hb)
        clear hb
        go_wp2_with fail
        refine (next_q w7 ly hy gy _ (3, Ny, sy) C7.out.y rfl).mono ?_
        rintro e w8 ⟨rfl, hb⟩
        have C8 := Lib.hid (C7.out.below hb)
        have C9 := Lib.hid ((C8.out.below (box_below w8 (kx, Nx, sx))).below (box_below _ (3, Ny, sy)))
        have X9 := Lib.hid (boxes_init w8 (kx, Nx, sx) (3, Ny, sy))
        clear hb
        go_wp2_with fail
        refine (size_ex _ (3, Ny, sy) N HQ.out hq1'.out hq2'.out HN.out.symm).mono ?_
        rintro e w9 ⟨rfl, rfl⟩
        have C10 := Lib.hid (C9.out.below (box_below _ (3, Ny, sy)))
        have X10 := Lib.hid (X9.out.chg (S := fun _ => False) (Chg.of_below (box_below _ (3, Ny, sy))) (fun f => f) (fun f => f))
        go_wp2_with fail
        refine (take_all _ ly hy gy (3, Ny, sy) ry' N C10.out.y HQ.out hq1'.out hq2'.out HN.out).mono ?_
        rintro e w10 ⟨rfl, hf, hch⟩
        have C11 := Lib.hid (C10.out.tookY hf hch)
        have hl1 := C8.out.base_le
        have hl2 := C8.out.l2
        have X11 := Lib.hid (X10.out.chg hch (fun h => by omega) (fun h => by omega))
        have hF1 := fun h => Nat.lt_irrefl _ (C8.out.b2.low w8.heap.size h).2
        have hF1' := fun h => Nat.lt_irrefl _ (Nat.lt_trans (Nat.lt_succ_self _) (C8.out.b2.low (w8.heap.size + 1) h).2)
        have HF1 := Lib.hid hF1
        have HF1' := Lib.hid hF1'
        clear hf hch hF1 hF1' hl1 hl2
        go_wp2_with fail
        refine (add_any _ _ F2 _ _ v2 (3, Ny, sy) C11.out.b2 C11.out.base_le HQ.out hsm1.out).mono ?_
        rintro e w11 ⟨rfl, F3, v3, hb2, hF2, hc2⟩
        rw [hst1.out] at hb2
        have C12 := Lib.hid (C11.out.added2 hb2 hF2 hc2)
        have X12 := X11.out.chg hc2 HF1.out HF1'.out
        have d0 := X12.d0
        have d1 := X12.d1
        have d2 := X12.d2
        have lt := X12.lt
        simp only at d0 d1 d2
        clear hb2 hF2 hc2 HC C5 C6 C7 C8 C9 C10 C11 X9 X10 X11 X12 HF1 HF1'
        go_wp2_with fail
        refine (size_ex _ (3, Ny, sy) N HQ.out hq1'.out hq2'.out HN.out.symm).mono ?_
        rintro e w12 ⟨rfl, rfl⟩
        have C13 := Lib.hid (C12.out.below (box_below _ (3, Ny, sy)))
        clear d0 d1 d2 lt
        go_wp2_with fail
        refine (add_any _ _ F1 _ _ v1 (1, (N : Int), []) C13.out.b1 C13.out.base_le (keepOk N) hsm2.out).mono ?_
        rintro e w13 ⟨rfl, F4, v4, hb2, hF2, hc2⟩
        rw [hst2.out] at hb2
        have C14 := Lib.hid (C13.out.added1 hb2 hF2 hc2)
        clear hb2 hF2 hc2 C12 C13
        go_wp2
        go_roundw
        case rel => exact ⟨_, _, rx, ry', F4, v4, F3, v3, C14, HT2⟩
        case measure => rw [C14.out.x.len, C14.out.y.len, hmeas.out]; simp
    by_cases hend : kx = 0 ∧ ky = 0
    · obtain ⟨rfl, rfl⟩ := hend
      obtain rfl : rx = [] := headP_zero HT.out.nx (by rw [← hpx])
      obtain rfl : ry = [] := headP_zero HT.out.ny (by rw [← hpy])
      obtain ⟨rfl, rfl⟩ : Nx = 0 ∧ sx = [] := by simp [headP] at hpx; exact hpx
      obtain ⟨rfl, rfl⟩ : Ny = 0 ∧ sy = [] := by simp [headP] at hpy; exact hpy
      have hR : us = (tr A B).1 ∧ vs = (tr A B).2 := by have h1 := HT.out.eq; rw [h1]; simp [ex, tr, pre]
      have HR := Lib.hid hR
      have hsl1 := st_len us
      have hsl2 := st_len vs
      obtain ⟨hus1, hus2⟩ := HUS.out
      obtain ⟨R1, hR1⟩ : ∃ R, R = nf us := ⟨_, rfl⟩
      obtain ⟨R2, hR2⟩ : ∃ R, R = nf vs := ⟨_, rfl⟩
      have hRR1 : R1 = nf (tr A B).1 := by rw [hR1, hR.1]
      have hRR2 : R2 = nf (tr A B).2 := by rw [hR2, hR.2]
      have HRR1 := Lib.hid hRR1
      have HRR2 := Lib.hid hRR2
      have hd1 : (flushS (stU us)).1 = R1 := hR1.symm
      have hd2 : (flushS (stU vs)).1 = R2 := hR2.symm
      have hwf1 := wf_nf (us := us) (by omega)
      have hwf2 := wf_nf (us := vs) (by omega)
      rw [← hR1] at hwf1
      rw [← hR2] at hwf2
      have HWF1 := Lib.hid hwf1
      have HWF2 := Lib.hid hwf2
      have HD1 := Lib.hid hd1
      have HD2 := Lib.hid hd2
      clear hpx hpy hR hlx hly hk3 hk2 hR1 hR2 hRR1 hRR2 hd1 hd2 hwf1 hwf2 hx33 hx34 hx35
      go_wp2_with fail
      refine (next_q wr lx hx gx _ (0, 0, []) HC.out.x rfl).mono ?_
      rintro e w5 ⟨rfl, hb⟩
      have C5 := Lib.hid (HC.out.below hb)
      clear hb
      go_wp2_with fail
      refine (next_q w5 ly hy gy _ (0, 0, []) C5.out.y rfl).mono ?_
      rintro e w6 ⟨rfl, hb⟩
      have C6 := Lib.hid (C5.out.below hb)
      clear hb
      go_wp2_with fail
      refine (done_own w6 _ F1 _ _ v1 C6.out.b1 C6.out.base_le (by omega) (by omega)).mono ?_
      rintro e w7 ⟨F3, v3, rfl, hb3, hF3, hc3⟩
      have C7 := Lib.hid (C6.out.added1 hb3 hF3 hc3)
      obtain ⟨mo, mc, hv, hp, hfr⟩ := PR.own (l := R1) (v := v3) (n := R1.length) (by have := hb3.own; rw [HD1.out] at this; exact this) rfl HWF1.out
      have HFR1 : Hid (∀ a, mo = some a → w.heap.size ≤ a.block) := Lib.hid fun a ha => Nat.le_trans C6.out.base_lo (hfr a ha)
      clear hfr
      have hblk : ∀ a, mo = some a → F3 a.block := fun a ha => hb3.fv a.block (by rw [hv, ha]; rfl)
      rw [hv]
      have HP7 := Lib.hid hp
      have HBLK := Lib.hid hblk
      clear hb3 hF3 hc3 hv hp hblk C5 C6 HC
      go_wp2_with fail
      refine (good_any mo mc R1 w7 HP7.out).mono ?_
      rintro e w8 ⟨a1, n1, q1, c1, rfl, hc1, hb⟩
      have C8 := Lib.hid (C7.out.below hb)
      have HP8 := Lib.hid (HP7.out.keep hb)
      have HC1 := Lib.hid hc1
      clear hb hc1 C7 HP7
      go_wp2_with fail
      refine (done_own w8 _ F2 _ _ v2 C8.out.b2 C8.out.base_le (by omega) (by omega)).mono ?_
      rintro e w9 ⟨F4, v4, rfl, hb4, hF4, hc4⟩
      have HP9 := Lib.hid (HP8.out.chg hc4 (fun a ha _ hf => C8.out.dis _ (HBLK.out a ha) hf))
      have hbel := (C8.out.added2 hb4 hF4 hc4).bel
      obtain ⟨no, nc, hv, hp, hfr⟩ := PR.own (l := R2) (v := v4) (n := R2.length) (by have := hb4.own; rw [HD2.out] at this; exact this) rfl HWF2.out
      rw [hv]
      have HFR2 : Hid (∀ a, no = some a → w.heap.size ≤ a.block) := Lib.hid fun a ha => Nat.le_trans C8.out.base_lo (hfr a ha)
      clear hfr
      have HQ9 := Lib.hid hp
      have HBEL := Lib.hid hbel
      clear hb4 hF4 hc4 hv hp hbel C8 HP8 HBLK
      go_wp2_with fail
      refine (good_any no nc R2 w9 HQ9.out).mono ?_
      rintro e w10 ⟨a2, n2, q2, c2, rfl, hc2, hb⟩
      have HP10 := Lib.hid (HP9.out.keep hb)
      have HQ10 := Lib.hid (HQ9.out.keep hb)
      have HB10 := Lib.hid (HBEL.out.trans (hb.mono HBEL.out.size))
      clear hb HP9 HQ9 HBEL
      rcases HC1.out with ⟨hk1, rfl, rfl, rfl, rfl⟩ | ⟨hk1, rfl⟩
      · rcases hc2 with ⟨hk2, rfl, rfl, rfl, rfl⟩ | ⟨hk2, rfl⟩
        · have HK1 := Lib.hid hk1
          have HK2 := Lib.hid hk2
          clear hk1 hk2 HC1
          go_wp2
          go_ret3
          rw [← HRR1.out, ← HRR2.out]
          exact ⟨fun _ => ⟨_, _, _, _, rfl, ⟨HP10.out, HFR1.out⟩, ⟨HQ10.out, HFR2.out⟩, HB10.out⟩, fun h => absurd ⟨HK1.out, HK2.out⟩ h⟩
        · have HK2 := Lib.hid hk2
          clear hk1 hk2 HC1
          go_wp2
          go_ret3
          rw [← HRR1.out, ← HRR2.out]
          exact ⟨fun h => absurd h.2 HK2.out, fun _ => ⟨rfl, HB10.out⟩⟩
      · have HK1 := Lib.hid hk1
        clear hk1 hc2 HC1
        go_wp2
        go_ret3
        rw [← HRR1.out, ← HRR2.out]
        exact ⟨fun h => absurd h.1 HK1.out, fun _ => ⟨rfl, HB10.out⟩⟩
    · have hne : (headP rx).1 ≠ 0 ∨ (headP ry).1 ≠ 0 := by
        rw [← hpx, ← hpy]
        simp only
        by_cases h : kx = 0
        · exact .inr (fun h2 => hend ⟨h, h2⟩)
        · exact .inl h
      obtain ⟨p, rx', q, ry', rfl, rfl, hp13, hq12⟩ := tr_next HT.out.nx HT.out.ny HT.out.ml (by rw [← hpy]; exact hk3) (by rw [← hpx]; exact hk2) hne
      simp only [headP] at hpx hpy
      subst hpx hpy
      simp only at hp13 hq12
      obtain ⟨hp, hpl, hp1, hp2⟩ := part_bd HT.out.nx (List.mem_cons_self) hlx
      obtain ⟨hq, hql, hq1, hq2⟩ := part_bd HT.out.ny (List.mem_cons_self) hly
      obtain ⟨N, hN⟩ : ∃ N, N = (ex1 (kx, Nx, sx)).length := ⟨_, rfl⟩
      obtain ⟨M, hM⟩ : ∃ N, N = (ex1 (ky, Ny, sy)).length := ⟨_, rfl⟩
      obtain ⟨n, hn⟩ : ∃ n, n = min N M := ⟨_, rfl⟩
      have hn1 : n ≤ (ex1 (kx, Nx, sx)).length := by omega
      have hn2 : n ≤ (ex1 (ky, Ny, sy)).length := by omega
      have hpair := HT.out.pair hp13 hq12 n hn1 hn2
      obtain ⟨pt, hpt⟩ : ∃ p, p = takeP (kx, Nx, sx) n := ⟨_, rfl⟩
      obtain ⟨qt, hqt⟩ : ∃ p, p = takeP (ky, Ny, sy) n := ⟨_, rfl⟩
      have hpo := takeP_ok (kx, Nx, sx) n hp
      have hqo := takeP_ok (ky, Ny, sy) n hq
      have hpb := takeP_bd (kx, Nx, sx) n hp
      have hqb := takeP_bd (ky, Ny, sy) n hq
      have hlp := leftP_len (kx, Nx, sx) n
      have hlq := leftP_len (ky, Ny, sy) n
      have hlen : (leftP (kx, Nx, sx) n ++ rx').length + (leftP (ky, Ny, sy) n ++ ry').length < ((kx, Nx, sx) :: rx').length + ((ky, Ny, sy) :: ry').length := by
        simp only [List.length_append, List.length_cons]
        rcases Nat.le_total N M with h | h
        · have := hlp.2 (by omega); omega
        · have := hlq.2 (by omega); omega
      rw [← hpt] at hpair hpo hpb
      rw [← hqt] at hpair hqo hqb
      simp only at hpair
      have hpk : pt.1 = kx := by rw [hpt]; exact takeP_kind _ _
      have hqk : qt.1 = ky := by rw [hqt]; exact takeP_kind _ _
      have hsp := Lib.hid (small_of us pt (by have := HUS.out; omega) (by omega) (by omega))
      have hsq := Lib.hid (small_of vs qt (by have := HUS.out; omega) (by omega) (by omega))
      have hstp := Lib.hid (stU_add us pt hpo)
      have hstq := Lib.hid (stU_add vs qt hqo)
      have HPO := Lib.hid hpo
      have HQO := Lib.hid hqo
      have HT2 := Lib.hid hpair
      have HLEN := Lib.hid hlen
      have HN := Lib.hid hN
      have HM := Lib.hid hM
      have HQ := Lib.hid hq
      have HP := Lib.hid hp
      have HPT := Lib.hid hpt
      have HQT := Lib.hid hqt
      have hq1' := Lib.hid hq1
      have hq2' := Lib.hid hq2
      have hp1' := Lib.hid hp1
      have hp2' := Lib.hid hp2
      have HN1 := Lib.hid hn1
      have HN2 := Lib.hid hn2
      have HNM := Lib.hid hn
      have hN4 : N ≤ 40000 := by omega
      have hM4 : M ≤ 40000 := by omega
      clear hpo hqo hpb hqb hlp hlq hlen hpair hN hM hp hq hpl hql hp1 hp2 hq1 hq2 hn1 hn2 hlx hly HT hk3 hk2 hend hne hpt hqt hn
      obtain ⟨kp, Np, sp⟩ := pt
      obtain ⟨kq, Nq, sq⟩ := qt
      simp only at hpk hqk
      subst hpk hqk
      obtain ⟨hx03, hx04, hx05⟩ := kne (show kp ≠ 0 by omega)
      obtain ⟨hy33, hy34, hy35⟩ := kne (show kq ≠ 3 by omega)
      have HP13 := Lib.hid hp13
      have HQ12 := Lib.hid hq12
      clear hp13 hq12
      go_wp2_with fail
      refine (next_q wr lx hx gx _ (kp, Nx, sx) HC.out.x rfl).mono ?_
      rintro e w5 ⟨rfl, hb⟩
      have C5 := Lib.hid (HC.out.below hb)
      clear hb
      go_wp2_with fail
      refine (next_q w5 lx hx gx _ (kp, Nx, sx) C5.out.x rfl).mono ?_
      rintro e w7 ⟨rfl, hb⟩
      have C7 := Lib.hid (C5.out.below hb)
      clear hb
      go_wp2_with fail
      refine (next_q w7 ly hy gy _ (kq, Ny, sy) C7.out.y rfl).mono ?_
      rintro e w8 ⟨rfl, hb⟩
      have C8 := Lib.hid (C7.out.below hb)
      have C9 := Lib.hid ((C8.out.below (box_below w8 (kp, Nx, sx))).below (box_below _ (kq, Ny, sy)))
      clear hb
      have Z1 := fun wz => size_ex wz (kp, Nx, sx) N HP.out hp1'.out hp2'.out HN.out.symm
      have Z2 := fun wz => size_ex wz (kq, Ny, sy) M HQ.out hq1'.out hq2'.out HM.out.symm
      simp only at Z1 Z2
      replace Z1 := Lib.hid Z1
      replace Z2 := Lib.hid Z2
      have HI0 := Lib.hid (boxes_init w8 (kp, Nx, sx) (kq, Ny, sy))
      go_upto_region 17 with fail
      go_cut [20] (fun s18 wx => s18 = .int .i64 n ∧ Hid (Boxes w8.heap.size (kp, Nx, sx) (kq, Ny, sy) wx) ∧ Hid (CM2 w.heap.size lx hx gx ly hy gy w3.heap.size w3.heap.size (w3.heap.size + 1) w wx ((kp, Nx, sx) :: rx') ((kq, Ny, sy) :: ry') F1 (stU us) v1 F2 (stU vs) v2))
      case first =>
        go_region_with (first | (go_at_call 37; refine (Z1.out _).mono ?_; rintro e w9 ⟨rfl, rfl⟩) | (go_at_call 37; refine (Z2.out _).mono ?_; rintro e w9 ⟨rfl, rfl⟩))
        all_goals
          go_wp2_with fail
          go_meet
          refine ⟨by rw [HNM.out]; congr 1; omega, ?_, ?_⟩
          · exact ((HI0.out.chg (S := fun _ => False) (Chg.of_below (box_below _ (kp, Nx, sx))) (fun f => f) (fun f => f)).chg (S := fun _ => False) (Chg.of_below (box_below _ (kq, Ny, sy))) (fun f => f) (fun f => f)).chg (S := fun _ => False) (Chg.of_below (Gx.drewN_below _ 1 _)) (fun f => f) (fun f => f)
          · exact ((C9.out.below (box_below _ (kp, Nx, sx))).below (box_below _ (kq, Ny, sy))).below (Gx.drewN_below _ 1 _)
      case rest =>
        obtain ⟨rfl, HB0, HC0⟩ := hcut
        have TX := fun wz hz => take_any wz lx hx gx (kp, Nx, sx) rx' n hz HP.out hp1'.out hp2'.out HN1.out
        have TY := fun wz hz => take_any wz ly hy gy (kq, Ny, sy) ry' n hz HQ.out hq1'.out hq2'.out HN2.out
        rw [← HPT.out] at TX
        rw [← HQT.out] at TY
        replace TX := Lib.hid TX
        replace TY := Lib.hid TY
        have hl1 := C8.out.base_le
        have hl2 := C8.out.l2
        have hl3 := C8.out.l1
        have hl4 := C8.out.y.lg
        have hl5 := C8.out.x.lg
        have HX1 : Hid (¬ (lx ≤ w8.heap.size ∧ w8.heap.size < hx)) := fun h => by omega
        have HX2 : Hid (¬ (lx ≤ w8.heap.size + 1 ∧ w8.heap.size + 1 < hx)) := fun h => by omega
        have HY1 : Hid (¬ (ly ≤ w8.heap.size ∧ w8.heap.size < hy)) := fun h => by omega
        have HY2 : Hid (¬ (ly ≤ w8.heap.size + 1 ∧ w8.heap.size + 1 < hy)) := fun h => by omega
        clear hl1 hl2 hl3 hl4 hl5 C5 C7 C9 HI0 Z1 Z2
        go_wp2_with fail
        refine (TX.out _ HC0.out.x).mono ?_
        rintro e w10 ⟨rfl, hf, hch⟩
        have HB1 := Lib.hid (HB0.out.chg hch HX1.out HX2.out)
        have HC1 := Lib.hid (HC0.out.tookX hf hch)
        clear hf hch HB0 HC0
        go_wp2_with fail
        refine (TY.out _ HC1.out.y).mono ?_
        rintro e w11 ⟨rfl, hf, hch⟩
        have HB2 := Lib.hid (HB1.out.chg hch HY1.out HY2.out)
        have HC2 := Lib.hid (HC1.out.tookY hf hch)
        clear hf hch HB1 HC1 TX TY
        have c0 := HB2.out.c0
        have c1 := HB2.out.c1
        have c2 := HB2.out.c2
        have d0 := HB2.out.d0
        have d1 := HB2.out.d1
        have d2 := HB2.out.d2
        have f0 := HB2.out.f0
        have f1 := HB2.out.f1
        have lt := HB2.out.lt
        simp only at c0 c1 c2 d0 d1 d2
        have hput := boxes_put HB2.out (kp, Np, sp) (kq, Nq, sq)
        simp only at hput
        have HPUT := Lib.hid hput
        have hl1 := C8.out.base_le
        have hl2 := C8.out.l2
        have hl3 := C8.out.l1
        have hl4 := C8.out.bel.size
        have hl5 := C8.out.l3
        have HC3 := Lib.hid (HC2.out.boxed hput.2 (fun k hk => ⟨by omega, fun hf => by have := (C8.out.b1.low k hf).2; omega, fun hf => by have := (C8.out.b2.low k hf).2; omega, by omega⟩))
        have HF1 : Hid (¬ F1 w8.heap.size) := fun h => Nat.lt_irrefl _ (C8.out.b1.low w8.heap.size h).2
        have HF2 : Hid (¬ F1 (w8.heap.size + 1)) := fun h => Nat.lt_irrefl _ (Nat.lt_trans (Nat.lt_succ_self _) (C8.out.b1.low (w8.heap.size + 1) h).2)
        clear hput hl1 hl2 hl3 hl4 hl5
        go_upto_region 19 with fail
        obtain ⟨wz, hwz⟩ : ∃ wz, wz = ((((((w11.setCell ⟨w8.heap.size, 0, none⟩ (.int .i64 kp)).setCell ⟨w8.heap.size, 1, none⟩ (.int .i64 Np)).setCell ⟨w8.heap.size, 2, none⟩ (.string (bs sp))).setCell ⟨w8.heap.size + 1, 0, none⟩ (.int .i64 kq)).setCell ⟨w8.heap.size + 1, 1, none⟩ (.int .i64 Nq)).setCell ⟨w8.heap.size + 1, 2, none⟩ (.string (bs sq))) := ⟨_, rfl⟩
        rw [← hwz] at HPUT HC3 ⊢
        have HB4 := Lib.hid HPUT.out.1
        clear HPUT hwz c0 c1 c2 d0 d1 d2 f0 f1 lt HB2 HC2
        have c0 := HB4.out.c0
        have c1 := HB4.out.c1
        have c2 := HB4.out.c2
        have d0 := HB4.out.d0
        have d1 := HB4.out.d1
        have d2 := HB4.out.d2
        have lt := HB4.out.lt
        simp only at c0 c1 c2 d0 d1 d2
        rcases kz kq 1 with ⟨hk1, hy13, hy14, hy15⟩ | ⟨hk1, hy13, hy14, hy15⟩
        · go_wp2_with fail
          refine (add_any _ _ F1 _ _ v1 (kp, Np, sp) HC3.out.b1 HC3.out.base_le HPO.out hsp.out).mono ?_
          rintro e w13 ⟨rfl, F3, v3, hb2, hF2, hc2⟩
          rw [hstp.out] at hb2
          have C12 := Lib.hid (HC3.out.added1 hb2 hF2 hc2)
          have HB5 := Lib.hid (HB4.out.chg hc2 HF1.out HF2.out)
          clear hb2 hF2 hc2 HC3 HB4 c0 c1 c2 d0 d1 d2 lt
          have c0 := HB5.out.c0
          have c1 := HB5.out.c1
          have c2 := HB5.out.c2
          have d0 := HB5.out.d0
          have d1 := HB5.out.d1
          have d2 := HB5.out.d2
          have lt := HB5.out.lt
          simp only at c0 c1 c2 d0 d1 d2
          rcases kz kp 1 with ⟨hk2, hx13, hx14, hx15⟩ | ⟨hk2, hx13, hx14, hx15⟩
          · have HT3 : Hid (TrSt A B (us ++ ex1 (kp, Np, sp)) (vs ++ ex1 (kq, Nq, sq)) (leftP (kp, Nx, sx) n ++ rx') (leftP (kq, Ny, sy) n ++ ry')) := by
              have h := HT2.out
              rw [if_pos hk1, if_pos hk2] at h
              exact h
            clear HT2 hk1 hk2
            go_wp2_with fail
            refine (add_any _ _ F2 _ _ v2 (kq, Nq, sq) C12.out.b2 C12.out.base_le HQO.out hsq.out).mono ?_
            rintro e w14 ⟨rfl, F4, v4, hb2, hF2, hc2⟩
            rw [hstq.out] at hb2
            have C13 := Lib.hid (C12.out.added2 hb2 hF2 hc2)
            clear hb2 hF2 hc2 C12 HB5 c0 c1 c2 d0 d1 d2 lt
            go_wp2
            go_roundw
            case rel => first | exact ⟨_, _, _, _, _, _, _, _, C13, HT3⟩ | ((repeat apply Exists.intro); exact ⟨⟨_, _, _, _, _, _, _, _, C13, HT3⟩, rfl⟩)
            case measure => rw [C13.out.x.len, C13.out.y.len, hmeas.out]; exact HLEN.out
          · have HT3 : Hid (TrSt A B (us ++ ex1 (kp, Np, sp)) vs (leftP (kp, Nx, sx) n ++ rx') (leftP (kq, Ny, sy) n ++ ry')) := by
              have h := HT2.out
              rw [if_pos hk1, if_neg hk2, List.append_nil] at h
              exact h
            clear HT2 hk1 hk2
            go_wp2
            go_roundw
            case rel => first | exact ⟨_, _, _, _, _, _, _, _, C12, HT3⟩ | ((repeat apply Exists.intro); exact ⟨⟨_, _, _, _, _, _, _, _, C12, HT3⟩, rfl⟩)
            case measure => rw [C12.out.x.len, C12.out.y.len, hmeas.out]; exact HLEN.out
        · rcases kz kp 1 with ⟨hk2, hx13, hx14, hx15⟩ | ⟨hk2, hx13, hx14, hx15⟩
          · have HT3 : Hid (TrSt A B us (vs ++ ex1 (kq, Nq, sq)) (leftP (kp, Nx, sx) n ++ rx') (leftP (kq, Ny, sy) n ++ ry')) := by
              have h := HT2.out
              rw [if_neg hk1, if_pos hk2, List.append_nil] at h
              exact h
            clear HT2 hk1 hk2
            go_wp2_with fail
            refine (add_any _ _ F2 _ _ v2 (kq, Nq, sq) HC3.out.b2 HC3.out.base_le HQO.out hsq.out).mono ?_
            rintro e w14 ⟨rfl, F4, v4, hb2, hF2, hc2⟩
            rw [hstq.out] at hb2
            have C13 := Lib.hid (HC3.out.added2 hb2 hF2 hc2)
            clear hb2 hF2 hc2 HC3 HB4 c0 c1 c2 d0 d1 d2 lt
            go_wp2
            go_roundw
            case rel => first | exact ⟨_, _, _, _, _, _, _, _, C13, HT3⟩ | ((repeat apply Exists.intro); exact ⟨⟨_, _, _, _, _, _, _, _, C13, HT3⟩, rfl⟩)
            case measure => rw [C13.out.x.len, C13.out.y.len, hmeas.out]; exact HLEN.out
          · have HT3 : Hid (TrSt A B us vs (leftP (kp, Nx, sx) n ++ rx') (leftP (kq, Ny, sy) n ++ ry')) := by
              have h := HT2.out
              rw [if_neg hk1, if_neg hk2, List.append_nil, List.append_nil] at h
              exact h
            clear HT2 hk1 hk2
            go_wp2
            go_roundw
            case rel => first | exact ⟨_, _, _, _, _, _, _, _, HC3, HT3⟩ | ((repeat apply Exists.intro); exact ⟨⟨_, _, _, _, _, _, _, _, HC3, HT3⟩, rfl⟩)
            case measure => rw [HC3.out.x.len, HC3.out.y.len, hmeas.out]; exact HLEN.out
end Go.Proofs.Ytaibpnblnigkgaa
