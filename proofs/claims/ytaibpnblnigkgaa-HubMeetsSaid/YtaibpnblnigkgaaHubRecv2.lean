/-
  The contract of a hub's Recv, of another client's change. Conditions: the hub lies in memory.
-/
import Derived.Test.YtaibpnblnigkgaaHubOver
namespace Go.Proofs.Ytaibpnblnigkgaa
open Go.RowKit Gx
set_option maxRecDepth 100000

/-- behind the first over -/
def CutR (m : Mb) (l : List Part) (bd : Option Addr) (cb : Nat) (w : World) (v7 v8 v9 : Value) (wx : World) : Prop :=
  ∃ mo n mc no k' nc c T, v7 = .slice mo n mc ∧ v8 = .pointer (some ⟨T, 0, none⟩) ∧ v9 = .int .i64 c ∧ w.heap.size ≤ T ∧ wx.heap[T]? = some (.cells #[.bool m.is, .slice no k' nc] 67) ∧ OverQ m l bd cb w mo n mc no k' nc c wx
theorem CutR.first {m : Mb} {l : List Part} {bd : Option Addr} {cb : Nat} {w w7 : World} {mo no : Option Addr} {n mc k' nc : Nat} {c : Int} (q : OverQ m l bd cb w mo n mc no k' nc c w7) :
    CutR m l bd cb w (.slice mo n mc) (.pointer (some ⟨w7.heap.size, 0, none⟩)) (.int .i64 c) (w7.alloc (.cells #[.bool m.is, .slice no k' nc] 67)) :=
  ⟨mo, n, mc, no, k', nc, c, _, rfl, rfl, rfl, q.bel.size, heap_alloc_new w7 _, q.after ((Below.refl _ _).alloc (Nat.le_refl _) _)⟩
theorem CutR.second {m : Mb} {l : List Part} {bd : Option Addr} {cb : Nat} {w w7 : World} {mo no : Option Addr} {n mc k' nc : Nat} {c : Int} (q : OverQ m l bd cb (w.alloc (.cells #[.bool false, .slice none 0 0] 67)) mo n mc no k' nc c w7) :
    CutR m l bd cb w (.slice mo n mc) (.pointer (some ⟨w.heap.size, 0, none⟩)) (.int .i64 c) ((w7.setCell ⟨w.heap.size, 0, none⟩ (.bool m.is)).setCell ⟨w.heap.size, 1, none⟩ (.slice no k' nc)) := by
  have hb := (q.bel.block _ (by rw [World.size_alloc]; exact Nat.lt_succ_self _)).trans (heap_alloc_new w (.cells #[.bool false, .slice none 0 0] 67))
  obtain ⟨e1, e2⟩ := store2 hb (.bool m.is) (.slice no k' nc)
  exact ⟨mo, n, mc, no, k', nc, c, _, rfl, rfl, rfl, Nat.le_refl _, e1, q.before e2⟩
theorem CutR.drew {m : Mb} {l : List Part} {bd : Option Addr} {cb : Nat} {w wx : World} {v7 v8 v9 : Value} (h : CutR m l bd cb w.drew v7 v8 v9 wx) : CutR m l bd cb w v7 v8 v9 wx := by
  obtain ⟨mo, n, mc, no, k', nc, c, T, h1, h2, h3, h4, h5, q⟩ := h
  exact ⟨mo, n, mc, no, k', nc, c, T, h1, h2, h3, h4, h5, q.drew⟩
set_option maxHeartbeats 8000000 in
theorem Recv_other {B R C cap : Nat} {h : Hb} {w : World} (m : HM B R C cap h w) (k : Nat) (x : Cl) (hk : h.cls[k]? = some x) (e : Lg) (he : h.log[x.seen]? = some e) (hw : e.who ≠ k) (hll : h.log.length ≤ 100000) :
    Calls Try.prog 18 #[.pointer (some ⟨R, 0, none⟩), .int .i64 k] w (RecvP B R C cap h k w) := by
  have hlt := (List.getElem?_eq_some_iff.1 hk).1
  have hcap := m.cl
  have H := Lib.hid (there_yes m k hlt)
  have HMM := Lib.hid m
  have HK := Lib.hid hk
  have HIN : Hid (h.In k) := ⟨by omega, by omega⟩
  have hBw : B ≤ w.heap.size := Nat.le_of_lt (Nat.lt_of_le_of_lt m.br m.rlt)
  have HSM : Hid (∀ y, h.cls[k]? = some y → y = x) := Lib.hid fun y hy => (Option.some.inj (hk.symm.trans hy)).symm
  have i1 : (0 : Int) ≤ (k : Int) := by omega
  have i2 : (k : Int) < (h.cls.length : Int) := by omega
  clear m hk
  obtain ⟨-, c1, c2, cf⟩ := HMM.out.cells
  obtain ⟨lo, lc, hlv⟩ := HMM.out.lg
  rw [hlv] at c1
  obtain ⟨d0, d1, d2, d3, d4, d5, df⟩ := HMM.out.row.cell HK.out
  obtain ⟨N, hN⟩ : ∃ N, h.log.length = N := ⟨_, rfl⟩
  obtain ⟨S, hS⟩ : ∃ S, x.seen = S := ⟨_, rfl⟩
  have hse : S < N := by rw [← hN, ← hS]; exact (List.getElem?_eq_some_iff.1 he).1
  obtain ⟨g, vc, hlv2, hnc, hgl, g0, g1⟩ := HMM.out.logCell he
  rw [hlv] at hlv2
  obtain ⟨rfl, -, rfl⟩ : lo = some ⟨g, 0, none⟩ ∧ h.log.length = h.log.length ∧ lc = vc := by simpa using hlv2
  rw [hS] at d1 g0 g1
  rw [hN] at c1 hnc hll
  have HE := Lib.hid he
  have HN := Lib.hid hN
  have HS := Lib.hid hS
  have j1 : (0 : Int) ≤ (S : Int) := by omega
  have j2 : (S : Int) < (N : Int) := by omega
  have u1 : ((S : Int) == (N : Int)) = false := by
    have : ¬ (S : Int) = (N : Int) := by omega
    simpa using this
  have u1n : (S == N) = false := by
    have : ¬ S = N := by omega
    simpa using this
  obtain ⟨LN, hLN⟩ : ∃ LN, e.l.length = LN := ⟨_, rfl⟩
  rw [hLN] at g1
  have HLN := Lib.hid hLN
  clear hN hS he hlv2 hLN
  have HW := Lib.hid hw
  have q1 : (e.who == (k : Int)) = false := by simpa using hw
  go_enter Try.func18, Try.ntmps18
  go_wp2_with fail
  refine H.out.mono ?_
  rintro e w1 ⟨rfl, rfl⟩
  go_wp2_with fail
  go_quiet (fail)
  go_wp2_with fail
  have HM1 := Lib.hid (HMM.out.below (Gx.drewN_below w1 nq _))
  have HB1 := Lib.hid ((Kp.refl R C h.lv w1).on (Gx.drewN_below w1 nq _))
  have b1 : (w1.drewN nq).cell? ⟨R, 1, none⟩ = _ := c1
  have b2 : (w1.drewN nq).cell? ⟨C, k * 6 + 1, none⟩ = _ := d1
  have b3 : (w1.drewN nq).cell? ⟨g, S * 2, none⟩ = _ := g0
  have b4 : (w1.drewN nq).cell? ⟨g, S * 2 + 1, none⟩ = _ := g1
  clear c1 c2 d0 d1 d2 d3 d4 d5 df cf g0 g1 H
  obtain ⟨wd, hwd⟩ : ∃ wd : World, w1.drewN nq = wd := ⟨_, rfl⟩
  rw [hwd] at HM1 HB1 b1 b2 b3 b4 ⊢
  clear hwd
  have hRl := HM1.out.rlt
  have hCl := HM1.out.row.lt
  have hgl2 : g < wd.heap.size := by
    have := (HM1.out.own.lt g (by rw [hlv]; rfl)).2
    exact this
  have ht6 : ∀ o, (wd.alloc o).cell? ⟨R, 1, none⟩ = some (.slice (some ⟨g, 0, none⟩) N lc) ∧ (wd.alloc o).cell? ⟨C, k * 6 + 1, none⟩ = some (.int .i64 S) ∧ (wd.alloc o).cell? ⟨g, S * 2, none⟩ = some (.int .i64 e.who) ∧ (wd.alloc o).cell? ⟨g, S * 2 + 1, none⟩ = some (.slice e.ad LN e.cap) := fun o =>
    ⟨(World.cell?_alloc_lt _ _ _ hRl).trans b1, (World.cell?_alloc_lt _ _ _ hCl).trans b2, (World.cell?_alloc_lt _ _ _ hgl2).trans b3, (World.cell?_alloc_lt _ _ _ hgl2).trans b4⟩
  go_region_held3 (fun w' => w'.cell? ⟨R, 1, none⟩ = some (.slice (some ⟨g, 0, none⟩) N lc) ∧ w'.cell? ⟨C, k * 6 + 1, none⟩ = some (.int .i64 S) ∧ w'.cell? ⟨g, S * 2, none⟩ = some (.int .i64 e.who) ∧ w'.cell? ⟨g, S * 2 + 1, none⟩ = some (.slice e.ad LN e.cap)) (first | exact ⟨b1, b2, b3, b4⟩ | exact ht6 _ | go_keep) (fail)
  clear ht6 b1 b2 b3 b4
  have HM6 := Lib.hid (HM1.out.below (((Below.refl wd.heap.size wd).alloc (Nat.le_refl _) (.cells #[.int .i64 e.who, .slice e.ad LN e.cap] 51)).trans (Gx.drewN_below _ 1 _)))
  have HB6 := Lib.hid ((HB1.out.alloc (.cells #[.int .i64 e.who, .slice e.ad LN e.cap] 51)).on (Gx.drewN_below _ 1 _))
  have ht : ((wd.alloc (.cells #[.int .i64 e.who, .slice e.ad LN e.cap] 51)).drewN 1).heap[wd.heap.size]? = some (.cells #[.int .i64 e.who, .slice e.ad LN e.cap] 51) := heap_alloc_new wd _
  have HT6 := Lib.hid ht
  clear ht
  obtain ⟨w6, hw6⟩ : ∃ w6 : World, (wd.alloc (.cells #[.int .i64 e.who, .slice e.ad LN e.cap] 51)).drewN 1 = w6 := ⟨_, rfl⟩
  change Exit.then _ _ _ _ ((wd.alloc (.cells #[.int .i64 e.who, .slice e.ad LN e.cap] 51)).drewN 1)
  rw [hw6] at HM6 HB6 HT6 ⊢
  clear hw6
  obtain ⟨x0, x1, -⟩ := two_cells HT6.out
  clear HM1 HB1
  obtain ⟨d0, d1, d2, d3, d4, d5, df⟩ := HM6.out.row.cell HK.out
  have hpe : PR w6 e.ad e.cap e.l := (HM6.out.parts e.pt (.inl ⟨e, List.mem_of_getElem? HE.out, rfl⟩)).1
  have hps : PR w6 x.sent.ad x.sent.cap x.sent.l := (HM6.out.parts x.sent.pt (.inr ⟨x, List.mem_of_getElem? HK.out, .inl rfl⟩)).1
  have HPE := Lib.hid hpe
  have HPS := Lib.hid hps
  clear hpe hps d0 d1 d4 d5 df
  have HOV : Hid (∀ wz, Below w6.heap.size w6 wz → Calls Try.prog 31 #[.agg #[.bool x.sent.is, .slice x.sent.ad x.sent.l.length x.sent.cap], .slice e.ad LN e.cap] wz fun ee w' =>
      ∃ mo n mc no k' nc c, ee = .returned (.tuple #[.slice mo n mc, .agg #[.bool x.sent.is, .slice no k' nc], .int .i64 c]) ∧ OverQ x.sent e.l e.ad e.cap wz mo n mc no k' nc c w') := Lib.hid fun wz hz => by
    have := over_any x.sent e.l e.ad e.cap wz (HPS.out.keep hz) (HPE.out.keep hz)
    rw [HLN.out] at this
    exact this
  go_upto_region 11 with fail
  obtain ⟨T6, hT6⟩ : ∃ T6, wd.heap.size = T6 := ⟨_, rfl⟩
  rw [hT6] at HT6 x0 x1
  try rw [hT6]
  go_cut [7, 8, 9] (fun v7 v8 v9 wx => Hid (CutR x.sent e.l e.ad e.cap w6 v7 v8 v9 wx))
  case first =>
    have HBd : Hid (Below w6.heap.size w6 w6.drew) := Lib.hid (Gx.drewN_below w6 1 _)
    have HBe : Hid (Below w6.heap.size w6 (w6.drew.alloc (.cells #[.bool false, .slice none 0 0] 67))) := Lib.hid (HBd.out.alloc (Nat.le_refl _) _)
    have hT6l : T6 < w6.heap.size := (Array.getElem?_eq_some_iff.1 HT6.out).1
    have hCl6 : C < w6.heap.size := HM6.out.row.lt
    have HKP : Hid (∀ wz, Below w6.heap.size w6 wz → wz.cell? ⟨C, k * 6 + 2, none⟩ = some (.bool x.sent.is) ∧ wz.cell? ⟨C, k * 6 + 3, none⟩ = some (.slice x.sent.ad x.sent.l.length x.sent.cap) ∧ wz.cell? ⟨T6, 1, none⟩ = some (.slice e.ad LN e.cap)) := Lib.hid fun wz hz =>
      ⟨(hz.cell (p := ⟨C, k * 6 + 2, none⟩) hCl6).trans d2, (hz.cell (p := ⟨C, k * 6 + 3, none⟩) hCl6).trans d3, (hz.cell (p := ⟨T6, 1, none⟩) hT6l).trans x1⟩
    have hk1 := HKP.out _ HBd.out
    have hk2 := HKP.out _ HBe.out
    have hne1 : ¬ w6.heap.size = C := by omega
    have hne2 : ¬ w6.heap.size = T6 := by omega
    have hne3 : ¬ C = w6.heap.size := by omega
    have hne4 : ¬ T6 = w6.heap.size := by omega
    clear x0 x1 d2 d3
    go_region_held3 (fun w' => w'.cell? ⟨C, k * 6 + 2, none⟩ = some (.bool x.sent.is) ∧ w'.cell? ⟨C, k * 6 + 3, none⟩ = some (.slice x.sent.ad x.sent.l.length x.sent.cap) ∧ w'.cell? ⟨T6, 1, none⟩ = some (.slice e.ad LN e.cap)) (first | exact hk1 | exact hk2 | exact hk3 | exact hk4 | go_keep)
      (first
        | (go_simp; refine (HOV.out w6.drew HBd.out).mono ?_; rintro ee w7 ⟨mo, n, mc, no, k', nc, c, rfl, hq⟩; have hk3 := HKP.out _ (HBd.out.trans hq.bel); have hk4 := HKP.out _ ((HBd.out.trans hq.bel).alloc hq.bel.size (.cells #[.bool x.sent.is, .slice no k' nc] 67)); have HQ := Lib.hid (CutR.first hq); clear hq)
        | (go_simp; refine (HOV.out (w6.drew.alloc (.cells #[.bool false, .slice none 0 0] 67)) HBe.out).mono ?_; rintro ee w7 ⟨mo, n, mc, no, k', nc, c, rfl, hq⟩; have hk3 := HKP.out _ (HBe.out.trans (hq.bel.mono (Nat.le_trans (Nat.le_succ _) (Nat.le_of_eq (World.size_alloc w6.drew _).symm)))); have hbt := (hq.bel.block _ (by rw [World.size_alloc]; exact Nat.lt_succ_self w6.drew.heap.size)).trans (heap_alloc_new w6.drew (.cells #[.bool false, .slice none 0 0] 67)); have hbt2 := two_cells hbt; have z0 : w7.cell? ⟨w6.heap.size, 0, none⟩ = _ := hbt2.1; have z1 : w7.cell? ⟨w6.heap.size, 1, none⟩ = _ := hbt2.2.1; have z2 : w7.frozen? ⟨w6.heap.size, 0, none⟩ = false := hbt2.2.2 0; have z3 : w7.frozen? ⟨w6.heap.size, 1, none⟩ = false := hbt2.2.2 1; have HQ := Lib.hid (CutR.second hq); clear hq hbt hbt2))
    all_goals
      go_wp2_with fail
      go_meet
      exact Lib.hid HQ.out.drew
  case rest =>
    obtain ⟨mo, n, mc, no, k', nc, c, T8, rfl, rfl, rfl, hT8, hb8, q⟩ := hcut.out
    have HMc := Lib.hid (HM6.out.below q.bel)
    have HBc := Lib.hid (HB6.out.on q.bel)
    have HQ := Lib.hid q
    have HB8 := Lib.hid hb8
    clear hcut q hb8 x0 x1 d2 d3 HOV
    have HNC : Hid (∀ (cc : Int) (W : World), cc ≠ 0 → cc ≠ 8 → HM B R C cap h W → Kp R C h.lv w1 W → (cc = 0 ↔ OverOk x.sent e.l ∧ OverOk x.held (overL x.sent e.l) ∧ apErr x.text.data.toList (overL x.held (overL x.sent e.l)) = 0) → RecvP B R C cap h k w1 (.returned (.int .i64 cc)) W) := Lib.hid fun cc W hcc hc8 hW hbW hiff =>
      ⟨cc, h, rfl, hW, ⟨fun hn => absurd HIN.out hn, fun _ => rfl, fun k' y hk' hy hs => by
        obtain rfl : k = k' := by omega
        obtain rfl := HSM.out y hy
        have h1 := HS.out
        have h2 := HN.out
        omega, fun k' y e' hk' hy he' hw' => by
        obtain rfl : k = k' := by omega
        obtain rfl := HSM.out y hy
        obtain rfl : e = e' := Option.some.inj (HE.out.symm.trans he')
        exact absurd hw' HW.out, fun k' y e' hk' hy he' hw' => by
        obtain rfl : k = k' := by omega
        obtain rfl := HSM.out y hy
        obtain rfl : e = e' := Option.some.inj (HE.out.symm.trans he')
        exact ⟨hiff, fun h => absurd h hcc⟩, fun _ _ _ _ _ => hc8⟩, hbW⟩
    by_cases hc : c = 0
    · subst hc
      obtain ⟨hn, hpl⟩ := HQ.out.pl rfl
      obtain ⟨hk', hpm⟩ := HQ.out.pm rfl
      have hp1 : PR wc mo mc (overL x.sent e.l) := by
        rcases hpl with ⟨h1, -⟩ | ⟨rfl, rfl, h1⟩
        · exact h1
        · rw [h1]; exact HPE.out.keep HQ.out.bel
      have hs1 : Pt.At wc R C h.lv ⟨overM x.sent e.l, no, nc⟩ ∨ (no = x.sent.ad ∧ nc = x.sent.cap ∧ overM x.sent e.l = x.sent.l) := hpm.imp (fun h => HM6.out.fresh h.1 h.2) id
      have HP1 := Lib.hid hp1
      have HS1 := Lib.hid hs1
      have HOK1 : Hid (OverOk x.sent e.l) := Lib.hid (HQ.out.ok.1 rfl)
      have HKL := Lib.hid hk'
      have hph : PR wc x.held.ad x.held.cap x.held.l := (HMc.out.parts x.held.pt (.inr ⟨x, List.mem_of_getElem? HK.out, .inr rfl⟩)).1
      have HOV2 := Lib.hid (over_any x.held (overL x.sent e.l) mo mc wc hph hp1)
      rw [← hn] at HOV2
      obtain ⟨d0, d1, d2, d3, d4, d5, df⟩ := HMc.out.row.cell HK.out
      clear hn hpl hk' hpm hp1 hs1 hph d0 d1 d2 d3 df
      go_wp2_with fail
      refine HOV2.out.mono ?_
      rintro ee w9 ⟨mo2, n2, mc2, no2, k2, nc2, c2, rfl, q2⟩
      have hzc := HBc.out.size
      have HM9 := Lib.hid (HMc.out.below q2.bel)
      have HB9 := Lib.hid (HBc.out.on q2.bel)
      have HB89 := Lib.hid ((q2.bel.block _ (Array.getElem?_eq_some_iff.1 HB8.out).1).trans HB8.out)
      have HQ2 := Lib.hid q2
      clear q2 HOV2 d4 d5
      have ha9 := (Below.refl w9.heap.size w9).alloc (Nat.le_refl _) (.cells #[.bool x.held.is, .slice no2 k2 nc2] 67)
      have HM10 := Lib.hid (HM9.out.below ha9)
      have HB10 := Lib.hid (HB9.out.on ha9)
      have HQ10 := Lib.hid (HQ2.out.after ha9)
      have HT8 := Lib.hid ((heap_alloc_old w9 (.cells #[.bool x.held.is, .slice no2 k2 nc2] 67) (Array.getElem?_eq_some_iff.1 HB89.out).1).trans HB89.out)
      have HT10 := Lib.hid (heap_alloc_new w9 (.cells #[.bool x.held.is, .slice no2 k2 nc2] 67))
      clear ha9
      obtain ⟨T10, hT10⟩ : ∃ T10, w9.heap.size = T10 := ⟨_, rfl⟩
      go_upto_region 15 with fail
      try rw [hT10]
      rw [hT10] at HT10
      generalize w9.alloc (.cells #[.bool x.held.is, .slice no2 k2 nc2] 67) = w10 at HM10 HB10 HQ10 HT8 HT10 ⊢
      clear HM9 HB9 HB89 HQ2 HB8 hT10
      by_cases hc2 : c2 = 0
      · subst hc2
        obtain ⟨hn2, hpl2⟩ := HQ10.out.pl rfl
        obtain ⟨hk2, hpm2⟩ := HQ10.out.pm rfl
        have hp2 : PR w10 mo2 mc2 (overL x.held (overL x.sent e.l)) := by
          rcases hpl2 with ⟨h1, -⟩ | ⟨rfl, rfl, h1⟩
          · exact h1
          · rw [h1]; exact HP1.out.keep HQ10.out.bel
        have hs2 : Pt.At w10 R C h.lv ⟨overM x.held (overL x.sent e.l), no2, nc2⟩ ∨ (no2 = x.held.ad ∧ nc2 = x.held.cap ∧ overM x.held (overL x.sent e.l) = x.held.l) := hpm2.imp (fun h => HMc.out.fresh h.1 h.2) id
        have HS2 := Lib.hid hs2
        have HS1b : Hid (Pt.At w10 R C h.lv ⟨overM x.sent e.l, no, nc⟩ ∨ (no = x.sent.ad ∧ nc = x.sent.cap ∧ overM x.sent e.l = x.sent.l)) := Lib.hid (HS1.out.imp (fun h => h.below HQ10.out.bel) id)
        have HOK2 : Hid (OverOk x.held (overL x.sent e.l)) := Lib.hid (HQ10.out.ok.1 rfl)
        have HKL2 := Lib.hid hk2
        obtain ⟨d0, d1, d2, d3, d4, d5, df⟩ := HM10.out.row.cell HK.out
        by_cases ha : apErr x.text.data.toList (overL x.held (overL x.sent e.l)) = 0
        · have HAP := Lib.hid (Apply_ok x.text mo2 mc2 _ w10 hp2 ha)
          rw [← hn2] at HAP
          obtain ⟨tx, htx⟩ : ∃ tx, bs (apT x.text.data.toList (overL x.held (overL x.sent e.l))) = tx := ⟨_, rfl⟩
          rw [htx] at HAP
          have HTX := Lib.hid htx
          have HA := Lib.hid ha
          clear hn2 hpl2 hk2 hpm2 hp2 hs2 ha htx d1 d2 d3 d4 d5 df
          go_wp2_with fail
          refine HAP.out.mono ?_
          rintro ee w11 ⟨rfl, hb11⟩
          have HM11 := Lib.hid (HM10.out.below hb11)
          have HB11 := Lib.hid (HB10.out.on hb11)
          have HS1c : Hid (Pt.At w11 R C h.lv ⟨overM x.sent e.l, no, nc⟩ ∨ (no = x.sent.ad ∧ nc = x.sent.cap ∧ overM x.sent e.l = x.sent.l)) := Lib.hid (HS1b.out.imp (fun h => h.below hb11) id)
          have HS2c : Hid (Pt.At w11 R C h.lv ⟨overM x.held (overL x.sent e.l), no2, nc2⟩ ∨ (no2 = x.held.ad ∧ nc2 = x.held.cap ∧ overM x.held (overL x.sent e.l) = x.held.l)) := Lib.hid (HS2.out.imp (fun h => h.below hb11) id)
          have ht8 := (hb11.block _ (Array.getElem?_eq_some_iff.1 HT8.out).1).trans HT8.out
          have ht10 := (hb11.block _ (Array.getElem?_eq_some_iff.1 HT10.out).1).trans HT10.out
          obtain ⟨a0, a1, -⟩ := two_cells ht8
          obtain ⟨b0, b1, -⟩ := two_cells ht10
          obtain ⟨d0, d1, d2, d3, d4, d5, df⟩ := HM11.out.row.cell HK.out
          clear hb11 HAP ht8 ht10 HS1b HS2 HS1
          rw [HS.out] at d1
          have hSw : IntKind.i64.wrap ((S : Int) + 1) = (S : Int) + 1 := IntWalk.i64_in _ (by omega)
          have f0 := df (k * 6)
          have f1 := df (k * 6 + 1)
          have f2 := df (k * 6 + 2)
          have f3 := df (k * 6 + 3)
          have f4 := df (k * 6 + 4)
          have f5 := df (k * 6 + 5)
          clear df
          go_wp2_with fail
          go_still_tail 11, (by kernel_rfl)
          change wpList _ _ _ _ _ w11.drew
          obtain ⟨w12, hw12⟩ : ∃ w12 : World, w11.drew = w12 := ⟨_, rfl⟩
          have HM12 : Hid (HM B R C cap h w12) := Lib.hid (by rw [← hw12]; exact HM11.out.below (Gx.drewN_below w11 1 _))
          have HB12 : Hid (Kp R C h.lv w1 w12) := Lib.hid (by rw [← hw12]; exact HB11.out.on (Gx.drewN_below w11 1 _))
          have HS1d : Hid (Pt.At w12 R C h.lv ⟨overM x.sent e.l, no, nc⟩ ∨ (no = x.sent.ad ∧ nc = x.sent.cap ∧ overM x.sent e.l = x.sent.l)) := Lib.hid (by rw [← hw12]; exact HS1c.out.imp (fun h => h.below (Gx.drewN_below w11 1 _)) id)
          have HS2d : Hid (Pt.At w12 R C h.lv ⟨overM x.held (overL x.sent e.l), no2, nc2⟩ ∨ (no2 = x.held.ad ∧ nc2 = x.held.cap ∧ overM x.held (overL x.sent e.l) = x.held.l)) := Lib.hid (by rw [← hw12]; exact HS2c.out.imp (fun h => h.below (Gx.drewN_below w11 1 _)) id)
          have d0' : w12.cell? ⟨C, k * 6, none⟩ = some (.string x.text) := by rw [← hw12]; exact d0
          have d1' : w12.cell? ⟨C, k * 6 + 1, none⟩ = some (.int .i64 S) := by rw [← hw12]; exact d1
          have d2' : w12.cell? ⟨C, k * 6 + 2, none⟩ = some (.bool x.sent.is) := by rw [← hw12]; exact d2
          have d3' : w12.cell? ⟨C, k * 6 + 3, none⟩ = some (.slice x.sent.ad x.sent.l.length x.sent.cap) := by rw [← hw12]; exact d3
          have d4' : w12.cell? ⟨C, k * 6 + 4, none⟩ = some (.bool x.held.is) := by rw [← hw12]; exact d4
          have d5' : w12.cell? ⟨C, k * 6 + 5, none⟩ = some (.slice x.held.ad x.held.l.length x.held.cap) := by rw [← hw12]; exact d5
          have f0' : w12.frozen? ⟨C, k * 6, none⟩ = false := by rw [← hw12]; exact f0
          have f1' : w12.frozen? ⟨C, k * 6 + 1, none⟩ = false := by rw [← hw12]; exact f1
          have f2' : w12.frozen? ⟨C, k * 6 + 2, none⟩ = false := by rw [← hw12]; exact f2
          have f3' : w12.frozen? ⟨C, k * 6 + 3, none⟩ = false := by rw [← hw12]; exact f3
          have f4' : w12.frozen? ⟨C, k * 6 + 4, none⟩ = false := by rw [← hw12]; exact f4
          have f5' : w12.frozen? ⟨C, k * 6 + 5, none⟩ = false := by rw [← hw12]; exact f5
          rw [hw12]
          clear hw12 a0 a1 b0 b1 d0 d1 d2 d3 d4 d5 f0 f1 f2 f3 f4 f5 hSw HM11 HB11 HS1c HS2c
          go_wp2_with fail
          try go_ret
          have hrow := HM12.out.row.whole HK.out ⟨tx, S + 1, ⟨x.sent.is, overM x.sent e.l, no, nc⟩, ⟨x.held.is, overM x.held (overL x.sent e.l), no2, nc2⟩⟩
          simp only at hrow
          rw [← HKL.out, ← HKL2.out] at hrow
          have hgr := (((((grown_set2 w12 C (k * 6) (.string tx)).trans (grown_set2 _ C (k * 6 + 1) (.int .i64 ((S + 1 : Nat) : Int)))).trans (grown_set2 _ C (k * 6 + 2) (.bool x.sent.is))).trans (grown_set2 _ C (k * 6 + 3) (.slice no k' nc))).trans (grown_set2 _ C (k * 6 + 4) (.bool x.held.is))).trans (grown_set2 _ C (k * 6 + 5) (.slice no2 k2 nc2))
          refine ⟨0, _, rfl, HM12.out.client hrow hgr ?_ ?_, ⟨fun hn => absurd HIN.out hn, fun h => absurd rfl h, fun k' y hk' hy hs => ?_, fun k' y e' hk' hy he' hw' => ?_, fun k' y e' hk' hy he' hw' => ?_, fun _ _ _ _ _ => by decide⟩, HB12.out.row hgr (fun k e => .inl (.inr (.inl (Option.some.inj e).symm)))⟩
          · rcases HS1d.out with h1 | ⟨h1, h2, h3⟩
            · exact .inl (h1.row hgr)
            · exact .inr (.inr ⟨x, List.mem_of_getElem? HK.out, .inl (by simp only [Mb.pt]; rw [h1, h2, h3])⟩)
          · rcases HS2d.out with h1 | ⟨h1, h2, h3⟩
            · exact .inl (h1.row hgr)
            · exact .inr (.inr ⟨x, List.mem_of_getElem? HK.out, .inr (by simp only [Mb.pt]; rw [h1, h2, h3])⟩)
          all_goals
            obtain rfl : k = k' := by omega
            obtain rfl := HSM.out y hy
          · exfalso
            have h1 := HS.out
            have h2 := HN.out
            omega
          · obtain rfl : e = e' := Option.some.inj (HE.out.symm.trans he')
            exact absurd hw' HW.out
          · obtain rfl : e = e' := Option.some.inj (HE.out.symm.trans he')
            exact ⟨⟨fun _ => ⟨HOK1.out, HOK2.out, HA.out⟩, fun _ => rfl⟩, fun _ => ⟨⟨y.sent.is, overM y.sent e.l, no, nc⟩, ⟨y.held.is, overM y.held (overL y.sent e.l), no2, nc2⟩, rfl, rfl, rfl, rfl, by rw [HTX.out, HS.out]⟩⟩
        · have HAP := Lib.hid (Apply_no x.text mo2 mc2 _ w10 hp2 ha)
          rw [← hn2] at HAP
          obtain ⟨c3, hc3⟩ : ∃ c3, apErr x.text.data.toList (overL x.held (overL x.sent e.l)) = c3 := ⟨_, rfl⟩
          have HA := Lib.hid ha
          rw [hc3] at HAP ha
          have tc : (c3 != 0) = true := by simpa using ha
          have HC3 := Lib.hid ha
          have H38 : Hid (c3 ≠ 8) := Lib.hid (by rw [← hc3]; exact apErr_ne8 _ _)
          clear hn2 hpl2 hk2 hpm2 hp2 hs2 ha hc3 d1 d2 d3 d4 d5 df
          go_wp2_with fail
          refine HAP.out.mono ?_
          rintro ee w11 ⟨rfl, hb11⟩
          have HM11 := Lib.hid (HM10.out.below hb11)
          have HB11 := Lib.hid (HB10.out.on hb11)
          clear hb11
          go_wp2_with fail
          try go_ret
          exact HNC.out c3 _ HC3.out H38.out HM11.out HB11.out ⟨fun h => absurd h HC3.out, fun h => absurd h.2.2 HA.out⟩
      · have tc : (c2 != 0) = true := by simpa using hc2
        go_wp2_with fail
        try go_ret
        exact HNC.out c2 _ hc2 HQ10.out.ne8 HM10.out HB10.out ⟨fun h => absurd h hc2, fun h => absurd (HQ10.out.ok.2 h.2.1) hc2⟩
    · have tc : (c != 0) = true := by simpa using hc
      go_wp2_with fail
      try go_ret
      exact HNC.out c _ hc HQ.out.ne8 HMc.out HBc.out ⟨fun h => absurd h hc, fun h => absurd (HQ.out.ok.2 h.1) hc⟩
end Go.Proofs.Ytaibpnblnigkgaa
