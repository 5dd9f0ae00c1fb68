/-
  The contract of a hub's Send. Conditions: the hub lies in memory; no client has seen more than there is.
-/
import Derived.Test.YtaibpnblnigkgaaHubRecv2
namespace Go.Proofs.Ytaibpnblnigkgaa
open Go.RowKit Gx
set_option maxRecDepth 100000

/-- what is sent, over all that came meanwhile -/
def sendOk : List (List Part) → List Part → Prop
  | [], _ => True
  | l :: r, c => TrOk l c ∧ sendOk r (trR l c)
def sendT : List (List Part) → List Part → List Part
  | [], c => c
  | l :: r, c => sendT r (trR l c)
theorem sendT_append : ∀ (a b : List (List Part)) (c : List Part), sendT (a ++ b) c = sendT b (sendT a c)
  | [], b, c => rfl
  | l :: r, b, c => sendT_append r b (trR l c)
theorem sendOk_append : ∀ (a b : List (List Part)) (c : List Part), sendOk (a ++ b) c ↔ sendOk a c ∧ sendOk b (sendT a c)
  | [], b, c => ⟨fun h => ⟨trivial, h⟩, fun h => h.2⟩
  | l :: r, b, c => by
    show TrOk l c ∧ sendOk (r ++ b) (trR l c) ↔ (TrOk l c ∧ sendOk r (trR l c)) ∧ sendOk b (sendT r (trR l c))
    rw [sendOk_append r b (trR l c)]
    exact ⟨fun h => ⟨⟨h.1, h.2.1⟩, h.2.2⟩, fun h => ⟨h.1.1, h.1.2, h.2⟩⟩
def Hb.tail (h : Hb) (s : Nat) : List (List Part) := (h.log.drop s).map Lg.l
structure SendStep (h : Hb) (n : Int) (c : Int) (h' : Hb) : Prop where
  out : ¬ h.In n → c ≠ 0
  no : c ≠ 0 → h' = h
  sent : ∀ (k : Nat) x, n = k → h.cls[k]? = some x → x.sent.is = true → c = 15
  nil : ∀ (k : Nat) x, n = k → h.cls[k]? = some x → x.sent.is = false → x.held.is = false → c = 8
  go : ∀ (k : Nat) x, n = k → h.cls[k]? = some x → x.sent.is = false → x.held.is = true →
    (c = 0 ↔ sendOk (h.tail x.seen) x.held.l ∧ apErr h.main.data.toList (sendT (h.tail x.seen) x.held.l) = 0) ∧
    (c = 0 → ∃ (e : Lg) (lv : Value), e.who = k ∧ e.l = sendT (h.tail x.seen) x.held.l ∧ h' = ⟨bs (apT h.main.data.toList (sendT (h.tail x.seen) x.held.l)), h.log ++ [e], lv, h.cls.set k { x with sent := x.held, held := Mb.none }⟩)
  ne : ∀ (k : Nat) x, n = k → h.cls[k]? = some x → x.sent.is = false → x.held.is = true → c ≠ 8
def SendP (B R C cap : Nat) (h : Hb) (n : Int) (w : World) (e : Ending) (w' : World) : Prop :=
  ∃ (c : Int) (h' : Hb), e = .returned (.int .i64 c) ∧ HM B R C cap h' w' ∧ SendStep h n c h' ∧ Kp R C h.lv w w'
theorem Send_no {B R C cap : Nat} {h : Hb} {w : World} (m : HM B R C cap h w) (n : Int) (hn : ¬ h.In n) :
    Calls Try.prog 17 #[.pointer (some ⟨R, 0, none⟩), .int .i64 n] w (SendP B R C cap h n w) := by
  have H := Lib.hid (there_no m n hn)
  have HMM := Lib.hid m
  have HN := Lib.hid hn
  clear m hn
  go_enter Try.func17, Try.ntmps17
  go_wp2_with fail
  refine H.out.mono ?_
  rintro e w1 ⟨rfl, rfl⟩
  go_wp2
  go_ret
  have hout : ∀ (k : Nat) x, n = k → h.cls[k]? = some x → False := fun k x hk hx => HN.out ⟨by omega, by have := (List.getElem?_eq_some_iff.1 hx).1; omega⟩
  exact ⟨1, h, rfl, HMM.out, ⟨fun _ => by decide, fun _ => rfl, fun k x hk hx => (hout k x hk hx).elim, fun k x hk hx => (hout k x hk hx).elim, fun k x hk hx => (hout k x hk hx).elim, fun k x hk hx => (hout k x hk hx).elim⟩, Kp.refl _ _ _ _⟩
theorem Try.info_noted : (Try.prog.info? 51).map (fun i => (i.zero, i.size, i.bytes)) = some (some (.agg #[.int .i64 0, .slice none 0 0]), 2, 32) := by kernel_rfl
set_option maxHeartbeats 8000000 in
theorem Send_sent {B R C cap : Nat} {h : Hb} {w : World} (m : HM B R C cap h w) (k : Nat) (x : Cl) (hk : h.cls[k]? = some x) (hs : x.sent.is = true) :
    Calls Try.prog 17 #[.pointer (some ⟨R, 0, none⟩), .int .i64 k] w (SendP B R C cap h k w) := by
  have hlt := (List.getElem?_eq_some_iff.1 hk).1
  have hcap := m.cl
  have H := Lib.hid (there_yes m k hlt)
  have HMM := Lib.hid m
  have HK := Lib.hid hk
  have HIN : Hid (h.In k) := ⟨by omega, by omega⟩
  have hBw : B ≤ w.heap.size := Nat.le_of_lt (Nat.lt_of_le_of_lt m.br m.rlt)
  have HSM : Hid (∀ y, h.cls[k]? = some y → y = x) := Lib.hid fun y hy => (Option.some.inj (hk.symm.trans hy)).symm
  have i1 : (0 : Int) ≤ (k : Int) := by omega
  have i2 : (k : Int) < (h.cls.length : Int) := by omega
  clear m hk
  obtain ⟨-, c1, c2, cf⟩ := HMM.out.cells
  obtain ⟨lo, lc, hlv⟩ := HMM.out.lg
  rw [hlv] at c1
  obtain ⟨d0, d1, d2, d3, d4, d5, df⟩ := HMM.out.row.cell HK.out
  rw [hs] at d2
  have HS := Lib.hid hs
  clear hs d0 d1 d3 d4 d5 df c1 cf
  go_enter Try.func17, Try.ntmps17
  go_wp2_with fail
  refine H.out.mono ?_
  rintro e w1 ⟨rfl, rfl⟩
  go_wp2_with fail
  try go_ret
  refine ⟨15, h, rfl, HMM.out, ⟨fun hn => absurd HIN.out hn, fun _ => rfl, fun k' y hk' hy h1 => rfl, fun k' y hk' hy h1 h2 => ?_, fun k' y hk' hy h1 h2 => ?_, fun k' y hk' hy h1 h2 => ?_⟩, Kp.refl _ _ _ _⟩
  all_goals
    obtain rfl : k = k' := by omega
    obtain rfl := HSM.out y hy
    rw [HS.out] at h1
    exact absurd h1 (by decide)
set_option maxHeartbeats 8000000 in
theorem Send_none {B R C cap : Nat} {h : Hb} {w : World} (m : HM B R C cap h w) (k : Nat) (x : Cl) (hk : h.cls[k]? = some x) (hs : x.sent.is = false) (hh : x.held.is = false) :
    Calls Try.prog 17 #[.pointer (some ⟨R, 0, none⟩), .int .i64 k] w (SendP B R C cap h k w) := by
  have hlt := (List.getElem?_eq_some_iff.1 hk).1
  have hcap := m.cl
  have H := Lib.hid (there_yes m k hlt)
  have HMM := Lib.hid m
  have HK := Lib.hid hk
  have HIN : Hid (h.In k) := ⟨by omega, by omega⟩
  have hBw : B ≤ w.heap.size := Nat.le_of_lt (Nat.lt_of_le_of_lt m.br m.rlt)
  have HSM : Hid (∀ y, h.cls[k]? = some y → y = x) := Lib.hid fun y hy => (Option.some.inj (hk.symm.trans hy)).symm
  have i1 : (0 : Int) ≤ (k : Int) := by omega
  have i2 : (k : Int) < (h.cls.length : Int) := by omega
  clear m hk
  obtain ⟨-, c1, c2, cf⟩ := HMM.out.cells
  obtain ⟨lo, lc, hlv⟩ := HMM.out.lg
  rw [hlv] at c1
  obtain ⟨d0, d1, d2, d3, d4, d5, df⟩ := HMM.out.row.cell HK.out
  rw [hs] at d2
  rw [hh] at d4
  have HS := Lib.hid hs
  have HH := Lib.hid hh
  clear hs hh d0 d1 d3 d5 df c1 cf
  go_enter Try.func17, Try.ntmps17
  go_wp2_with fail
  refine H.out.mono ?_
  rintro e w1 ⟨rfl, rfl⟩
  go_wp2_with fail
  try go_ret
  refine ⟨8, h, rfl, HMM.out, ⟨fun hn => absurd HIN.out hn, fun _ => rfl, fun k' y hk' hy h1 => ?_, fun k' y hk' hy h1 h2 => rfl, fun k' y hk' hy h1 h2 => ?_, fun k' y hk' hy h1 h2 => ?_⟩, Kp.refl _ _ _ _⟩
  all_goals
    obtain rfl : k = k' := by omega
    obtain rfl := HSM.out y hy
  · rw [HS.out] at h1
    exact absurd h1 (by decide)
  · rw [HH.out] at h2
    exact absurd h2 (by decide)
  · rw [HH.out] at h2
    exact absurd h2 (by decide)
set_option maxHeartbeats 8000000 in
theorem Send_go {B R C cap : Nat} {h : Hb} {w : World} (m : HM B R C cap h w) (k : Nat) (x : Cl) (hk : h.cls[k]? = some x) (hs : x.sent.is = false) (hh : x.held.is = true) (hsn : x.seen ≤ h.log.length) (hll : h.log.length ≤ 100000) :
    Calls Try.prog 17 #[.pointer (some ⟨R, 0, none⟩), .int .i64 k] w (SendP B R C cap h k w) := by
  have hlt := (List.getElem?_eq_some_iff.1 hk).1
  have hcap := m.cl
  have H := Lib.hid (there_yes m k hlt)
  have HMM := Lib.hid m
  have HK := Lib.hid hk
  have HIN : Hid (h.In k) := ⟨by omega, by omega⟩
  have hBw : B ≤ w.heap.size := Nat.le_of_lt (Nat.lt_of_le_of_lt m.br m.rlt)
  have HSM : Hid (∀ y, h.cls[k]? = some y → y = x) := Lib.hid fun y hy => (Option.some.inj (hk.symm.trans hy)).symm
  have i1 : (0 : Int) ≤ (k : Int) := by omega
  have i2 : (k : Int) < (h.cls.length : Int) := by omega
  clear m hk
  obtain ⟨-, c1, c2, cf⟩ := HMM.out.cells
  obtain ⟨lo, lc, hlv⟩ := HMM.out.lg
  rw [hlv] at c1
  obtain ⟨d0, d1, d2, d3, d4, d5, df⟩ := HMM.out.row.cell HK.out
  rw [hs] at d2
  rw [hh] at d4
  have HS := Lib.hid hs
  have HH := Lib.hid hh
  obtain ⟨N, hN⟩ : ∃ N, h.log.length = N := ⟨_, rfl⟩
  obtain ⟨S, hS⟩ : ∃ S, x.seen = S := ⟨_, rfl⟩
  obtain ⟨D, hD⟩ : ∃ D, x.held.l.length = D := ⟨_, rfl⟩
  rw [hN] at c1 hll hsn
  rw [hS] at d1 hsn
  rw [hD] at d5
  have HN := Lib.hid hN
  have HSN := Lib.hid hS
  have HD := Lib.hid hD
  have hph : PR w x.held.ad x.held.cap x.held.l := (HMM.out.parts x.held.pt (.inr ⟨x, List.mem_of_getElem? HK.out, .inr rfl⟩)).1
  have HPH := Lib.hid hph
  have hlg : (lo = none ∧ N = 0 ∧ lc = 0) ∨ ∃ g, lo = some ⟨g, 0, none⟩ ∧ N ≤ lc ∧ g < w.heap.size ∧ ∀ i e, h.log[i]? = some e → w.cell? ⟨g, i * 2, none⟩ = some (.int .i64 e.who) ∧ w.cell? ⟨g, i * 2 + 1, none⟩ = some (.slice e.ad e.l.length e.cap) := by
    rcases HMM.out.own.2 with ⟨h1, h0⟩ | ⟨g, vc, cur, h1, hb, hg, hnc, -⟩
    · rw [hlv] at h1
      obtain ⟨rfl, -, rfl⟩ : lo = none ∧ h.log.length = 0 ∧ lc = 0 := by simpa using h1
      exact .inl ⟨rfl, by omega, rfl⟩
    · rw [hlv] at h1
      obtain ⟨rfl, -, rfl⟩ : lo = some ⟨g, 0, none⟩ ∧ h.log.length = h.log.length ∧ lc = vc := by simpa using h1
      refine .inr ⟨g, rfl, by omega, (Array.getElem?_eq_some_iff.1 hg).1, fun i e he => ?_⟩
      obtain ⟨g2, vc2, hlv3, -, -, q0, q1⟩ := HMM.out.logCell he
      rw [hlv] at hlv3
      obtain ⟨rfl, -⟩ : g = g2 ∧ lc = vc2 := by simpa using hlv3
      exact ⟨q0, q1⟩
  have hTl : (h.tail S).length = N - S := by unfold Hb.tail; rw [List.length_map, List.length_drop, hN]
  have HTL := Lib.hid hTl
  have HLV : Hid (h.lv = .slice lo N lc) := Lib.hid (by rw [hlv, hN])
  have htg : ∀ j e, h.log[S + j]? = some e → (h.tail S)[j]? = some e.l := fun j e he => by
    unfold Hb.tail
    rw [List.getElem?_map, List.getElem?_drop, he]
    rfl
  have HTG := Lib.hid htg
  clear hTl htg
  have s1 : (0 : Int) ≤ (S : Int) := by omega
  have s2 : (S : Int) ≤ (N : Int) := by omega
  have s0 : (S : Int).toNat = S := rfl
  clear hs hh hN hS hD hph d0 d3 df cf hlv
  go_enter Try.func17, Try.ntmps17
  go_wp2_with fail
  refine H.out.mono ?_
  rintro e w1 ⟨rfl, rfl⟩
  go_wp2_with fail
  rcases hlg with ⟨rfl, hN0, hlc0⟩ | ⟨g, rfl, hnc, hgl, hgc⟩
  · obtain rfl : S = 0 := by omega
    subst hN0
    subst hlc0
    go_quiet (fail)
    have HDR := Lib.hid (Gx.drewN_below w1 nq w1.heap.size)
    go_wp2_with fail
    obtain ⟨wo, rfl⟩ : ∃ wo : World, wo = w1 := ⟨_, rfl⟩
    clear c1 d1 d4 d5 H
    go_loopw [6, 52] (fun v6 v52 wr => ∃ (j : Nat) (co : Option Addr) (cc : Nat) (cur : List Part), j ≤ 0 - 0 ∧ v52 = .int .i64 j ∧ v6 = .slice co cur.length cc ∧
        Hid ((sendOk ((h.tail 0).take j) x.held.l ∧ cur = sendT ((h.tail 0).take j) x.held.l) ∧ PR wr co cc cur ∧ (Fresh wo.heap.size co ∨ (co = x.held.ad ∧ cc = x.held.cap ∧ cur = x.held.l)) ∧ Below wo.heap.size wo wr)) (fun _ v52 _ => (0 - 0) - (intOf v52).toNat)
    case atStart => exact ⟨0, x.held.ad, x.held.cap, x.held.l, Nat.zero_le _, rfl, by rw [HD.out], Lib.hid ⟨⟨by rw [List.take_zero]; exact trivial, by rw [List.take_zero]; rfl⟩, HPH.out.keep HDR.out, .inr ⟨rfl, rfl, rfl⟩, HDR.out⟩⟩
    case round =>
      obtain ⟨j, co, cc, cur, hj, rfl, rfl, HR⟩ := hrel
      have hst : SendStep h k 0 h → True := fun _ => trivial
      have HNC : Hid (∀ (c9 : Int) (W : World), c9 ≠ 0 → c9 ≠ 8 → HM B R C cap h W → Kp R C h.lv wo W → ¬ (sendOk (h.tail 0) x.held.l ∧ apErr h.main.data.toList (sendT (h.tail 0) x.held.l) = 0) → SendP B R C cap h k wo (.returned (.int .i64 c9)) W) := Lib.hid fun c9 W hcc hc8 hW hbW hno =>
        ⟨c9, h, rfl, hW, ⟨fun hn => absurd HIN.out hn, fun _ => rfl, fun k' y hk' hy h1 => by
          obtain rfl : k = k' := by omega
          obtain rfl := HSM.out y hy
          rw [HS.out] at h1
          exact absurd h1 (by decide), fun k' y hk' hy h1 h2 => by
          obtain rfl : k = k' := by omega
          obtain rfl := HSM.out y hy
          rw [HH.out] at h2
          exact absurd h2 (by decide), fun k' y hk' hy h1 h2 => by
          obtain rfl : k = k' := by omega
          obtain rfl := HSM.out y hy
          rw [HSN.out]
          exact ⟨⟨fun h => absurd h hcc, fun h => absurd h hno⟩, fun h => absurd h hcc⟩, fun _ _ _ _ _ _ => hc8⟩, hbW⟩
      by_cases hlt : j < 0 - 0
      · exfalso
        omega
      · obtain rfl : j = 0 - 0 := by omega
        have hfull : (h.tail 0).take (0 - 0) = h.tail 0 := by rw [← HTL.out, List.take_length]
        have hr := HR.out
        rw [hfull] at hr
        obtain ⟨⟨hok, hcur⟩, hp, hfr, hb⟩ := hr
        have HOK := Lib.hid hok
        have HCUR := Lib.hid hcur
        have HMr := Lib.hid (HMM.out.below hb)
        have HBr := Lib.hid ((Kp.refl R C h.lv wo).on hb)
        have hat : Pt.At wr R C h.lv ⟨cur, co, cc⟩ := by
          rcases hfr with h1 | ⟨h1, h2, h3⟩
          · exact HMM.out.fresh hp h1
          · have h4 := HMr.out.parts x.held.pt (.inr ⟨x, List.mem_of_getElem? HK.out, .inr rfl⟩)
            unfold Mb.pt at h4
            rw [← h1, ← h2, ← h3] at h4
            exact h4
        have HAT := Lib.hid hat
        have HPC := Lib.hid hp
        obtain ⟨r0, -, -, -⟩ := HMr.out.cells
        clear hfull hok hfr hb hat hp hj HR hst
        by_cases ha : apErr h.main.data.toList cur = 0
        · have HAP := Lib.hid (Apply_ok h.main co cc cur wr HPC.out ha)
          obtain ⟨tx, htx⟩ : ∃ tx, bs (apT h.main.data.toList cur) = tx := ⟨_, rfl⟩
          rw [htx] at HAP
          have HTX := Lib.hid htx
          have HA := Lib.hid ha
          obtain ⟨DC, hDC⟩ : ∃ DC, cur.length = DC := ⟨_, rfl⟩
          rw [hDC] at HAP ⊢
          have HDC := Lib.hid hDC
          clear ha htx hcur hDC
          go_wp2_with fail
          refine HAP.out.mono ?_
          rintro ee w2 ⟨rfl, hb2⟩
          have HM2 := Lib.hid (HMr.out.below hb2)
          have HB2 := Lib.hid (HBr.out.on hb2)
          have HAT2 := Lib.hid (HAT.out.below hb2)
          clear hb2 HAP r0 HAT HPC
          obtain ⟨r0, r1, r2, rf⟩ := HM2.out.cells
          have rf0 := rf 0
          clear r1 r2 rf
          go_upto_region 21 with fail
          have HM3 := Lib.hid (HM2.out.text tx)
          have hg3 := grown_set2 w2 R 0 (.string tx)
          have HB3 := Lib.hid (HB2.out.row hg3 (fun k e => .inl (.inl (Option.some.inj e).symm)))
          have HAT3 : Hid (Pt.At (w2.setCell ⟨R, 0, none⟩ (.string tx)) R C h.lv ⟨cur, co, cc⟩) := Lib.hid ⟨HAT2.out.1.over hg3.size (fun a ha hl hlt => hg3.block _ hlt (fun e => (HAT2.out.2 a ha hl).1 (Option.some.inj e))), HAT2.out.2⟩
          generalize w2.setCell ⟨R, 0, none⟩ (.string tx) = w3 at HM3 HB3 HAT3 ⊢
          clear hg3 r0 rf0 HAT2 HM2
          obtain ⟨-, -, -, rf⟩ := HM3.out.cells
          have r1 : w3.cell? ⟨R, 1, none⟩ = some (Value.slice none 0 0) := by have := HM3.out.cells.2.1; rw [show ({ h with main := tx } : Hb).lv = Value.slice none 0 0 from HLV.out] at this; exact this
          have rf1 := rf 1
          have hOWN : w3.ownsRow B 51 2 (Value.slice none 0 0) 0 (logCells h.log) := by have := HM3.out.own; rw [show ({ h with main := tx } : Hb).log.length = 0 from HN.out, show ({ h with main := tx } : Hb).lv = Value.slice none 0 0 from HLV.out] at this; exact this
          have HOWN := Lib.hid hOWN
          have HLR : Hid ((Value.slice none 0 0 : Value).ownBlock ≠ some R) := Lib.hid (by have := HM3.out.lr; rw [show ({ h with main := tx } : Hb).lv = Value.slice none 0 0 from HLV.out] at this; exact this)
          have hB3 : B ≤ w3.heap.size := Nat.le_of_lt (Nat.lt_of_le_of_lt HM3.out.br HM3.out.rlt)
          clear rf hOWN
          go_upto_region 22 with (at_builtin; refine Gx.wpList_push w3 rfl _ _ 46 rfl B 51 (.agg #[.int .i64 0, .slice none 0 0]) 2 32 Try.underlying46 Try.info_noted rfl (by decide) (Value.slice none 0 0) 0 (logCells h.log) [.int .i64 k, .slice co DC cc] _ rfl rfl (by exact HOWN.out) rfl rfl (by intro u hu; simp only [List.mem_cons, List.not_mem_nil, or_false] at hu; rcases hu with rfl | rfl <;> rfl) (by omega) (by omega) (by exact hB3) ?_; intro lv' w4 hown4 hg4 hm4 _; have hR1 := (hg4.block _ HM3.out.rlt (fun e => HLR.out e.symm)).trans HM3.out.obj; have k1 : w4.cell? ⟨R, 1, none⟩ = some (Value.slice none 0 0) := (by simp [World.cell?, hR1, HLV.out]); have k2 : w4.frozen? ⟨R, 1, none⟩ = false := (by simp [World.frozen?, hR1]); obtain ⟨vo4, vc4, rfl⟩ := own_form hown4)
          have hlvm : ({ h with main := tx } : Hb).lv = Value.slice none 0 0 := HLV.out
          have hlnm : ({ h with main := tx } : Hb).log.length = 0 := HN.out
          have HM5 := Lib.hid (HM3.out.push ⟨k, cur, co, cc⟩ HAT3.out (.slice vo4 (0 + 1) vc4) (by rw [hlnm, HDC.out]; exact hown4) (by rw [hlvm]; exact hg4) (by rw [hlvm]; exact hm4))
          have hlow : ∀ b, (Value.slice none 0 0 : Value).ownBlock = some b → B ≤ b := fun b hb => (HOWN.out.lt b hb).1
          have HB5 := Lib.hid ((HB3.out.row hg4 (fun k e => .inl (.inr (.inr (by rw [HLV.out]; exact e))))).row (grown_set2 w4 R 1 (.slice vo4 (0 + 1) vc4)) (fun k e => .inl (.inl (Option.some.inj e).symm)))
          generalize w4.setCell ⟨R, 1, none⟩ (.slice vo4 (0 + 1) vc4) = w5 at HM5 HB5 ⊢
          obtain ⟨-, -, d2, d3, d4, d5, df⟩ := HM5.out.row.cell (show ({ h with main := tx } : Hb).cls[k]? = some x from HK.out)
          rw [HS.out] at d2
          rw [HH.out] at d4
          have f2 := df (k * 6 + 2)
          have f3 := df (k * 6 + 3)
          have f4 := df (k * 6 + 4)
          have f5 := df (k * 6 + 5)
          clear hlvm hlnm hown4 hg4 hm4 hR1 k1 k2 hlow df r1 rf1
          go_wp2_with fail
          try go_ret
          have r1 := HM5.out.row.store (show ({ h with main := tx } : Hb).cls[k]? = some x from HK.out) 2 (.bool true) (by decide) { x with sent := { x.sent with is := true } } rfl
          have r2 := r1.store (get_set HK.out) 3 (.slice x.held.ad x.held.l.length x.held.cap) (by decide) { x with sent := x.held } (by simp [Cl.cells, HH.out])
          have r3 := r2.store (get_set (get_set HK.out)) 4 (.bool false) (by decide) { x with sent := x.held, held := { x.held with is := false } } rfl
          have r4 := r3.store (get_set (get_set (get_set HK.out))) 5 (.slice none 0 0) (by decide) { x with sent := x.held, held := Mb.none } rfl
          rw [set_set, set_set, set_set] at r4
          have hgr := (((grown_set2 w5 C (k * 6 + 2) (.bool true)).trans (grown_set2 _ C (k * 6 + 3) (.slice x.held.ad x.held.l.length x.held.cap))).trans (grown_set2 _ C (k * 6 + 4) (.bool false))).trans (grown_set2 _ C (k * 6 + 5) (.slice none 0 0))
          have hm9 := HM5.out.client (c' := { x with sent := x.held, held := Mb.none }) r4 hgr (.inr (.inr ⟨x, List.mem_of_getElem? HK.out, .inr rfl⟩)) (.inl ⟨PR.nil _ _ _ (fun _ => rfl) (show (0 : Nat) ≤ 9223372036854775807 from Nat.zero_le _), fun a ha => by cases ha⟩)
          refine ⟨0, _, rfl, hm9, ⟨fun hn => absurd HIN.out hn, fun h => absurd rfl h, fun k' y hk' hy h1 => ?_, fun k' y hk' hy h1 h2 => ?_, fun k' y hk' hy h1 h2 => ?_, fun _ _ _ _ _ _ => by decide⟩, HB5.out.row hgr (fun k e => .inl (.inr (.inl (Option.some.inj e).symm)))⟩
          all_goals
            obtain rfl : k = k' := by omega
            obtain rfl := HSM.out y hy
          · rw [HS.out] at h1
            exact absurd h1 (by decide)
          · rw [HH.out] at h2
            exact absurd h2 (by decide)
          · rw [HSN.out]
            exact ⟨⟨fun _ => ⟨HOK.out, by rw [← HCUR.out]; exact HA.out⟩, fun _ => rfl⟩, fun _ => ⟨⟨k, cur, co, cc⟩, _, rfl, HCUR.out, by rw [← HCUR.out, HTX.out]⟩⟩
        · have HAP := Lib.hid (Apply_no h.main co cc cur wr HPC.out ha)
          obtain ⟨c3, hc3⟩ : ∃ c3, apErr h.main.data.toList cur = c3 := ⟨_, rfl⟩
          have HA := Lib.hid ha
          rw [hc3] at HAP ha
          have tc : (c3 != 0) = true := by simpa using ha
          have HC3 := Lib.hid ha
          have H38 : Hid (c3 ≠ 8) := Lib.hid (by rw [← hc3]; exact apErr_ne8 _ _)
          clear ha hc3 hcur
          go_wp2_with fail
          refine HAP.out.mono ?_
          rintro ee w2 ⟨rfl, hb2⟩
          have HM2 := Lib.hid (HMr.out.below hb2)
          have HB2 := Lib.hid (HBr.out.on hb2)
          clear hb2
          go_wp2_with fail
          try go_ret
          exact HNC.out c3 _ HC3.out H38.out HM2.out HB2.out (fun h => HA.out (by rw [HCUR.out]; exact h.2))
  · by_cases hSl : lc = S
    · subst hSl
      obtain rfl : N = lc := by omega
      go_quiet (fail)
      have HDR := Lib.hid (Gx.drewN_below w1 nq w1.heap.size)
      go_wp2_with fail
      obtain ⟨wo, rfl⟩ : ∃ wo : World, wo = w1 := ⟨_, rfl⟩
      clear c1 d1 d4 d5 H
      go_loopw [6, 52] (fun v6 v52 wr => ∃ (j : Nat) (co : Option Addr) (cc : Nat) (cur : List Part), j ≤ N - N ∧ v52 = .int .i64 j ∧ v6 = .slice co cur.length cc ∧
          Hid ((sendOk ((h.tail N).take j) x.held.l ∧ cur = sendT ((h.tail N).take j) x.held.l) ∧ PR wr co cc cur ∧ (Fresh wo.heap.size co ∨ (co = x.held.ad ∧ cc = x.held.cap ∧ cur = x.held.l)) ∧ Below wo.heap.size wo wr)) (fun _ v52 _ => (N - N) - (intOf v52).toNat)
      case atStart => exact ⟨0, x.held.ad, x.held.cap, x.held.l, Nat.zero_le _, rfl, by rw [HD.out], Lib.hid ⟨⟨by rw [List.take_zero]; exact trivial, by rw [List.take_zero]; rfl⟩, HPH.out.keep HDR.out, .inr ⟨rfl, rfl, rfl⟩, HDR.out⟩⟩
      case round =>
        obtain ⟨j, co, cc, cur, hj, rfl, rfl, HR⟩ := hrel
        have hst : SendStep h k 0 h → True := fun _ => trivial
        have HNC : Hid (∀ (c9 : Int) (W : World), c9 ≠ 0 → c9 ≠ 8 → HM B R C cap h W → Kp R C h.lv wo W → ¬ (sendOk (h.tail N) x.held.l ∧ apErr h.main.data.toList (sendT (h.tail N) x.held.l) = 0) → SendP B R C cap h k wo (.returned (.int .i64 c9)) W) := Lib.hid fun c9 W hcc hc8 hW hbW hno =>
          ⟨c9, h, rfl, hW, ⟨fun hn => absurd HIN.out hn, fun _ => rfl, fun k' y hk' hy h1 => by
            obtain rfl : k = k' := by omega
            obtain rfl := HSM.out y hy
            rw [HS.out] at h1
            exact absurd h1 (by decide), fun k' y hk' hy h1 h2 => by
            obtain rfl : k = k' := by omega
            obtain rfl := HSM.out y hy
            rw [HH.out] at h2
            exact absurd h2 (by decide), fun k' y hk' hy h1 h2 => by
            obtain rfl : k = k' := by omega
            obtain rfl := HSM.out y hy
            rw [HSN.out]
            exact ⟨⟨fun h => absurd h hcc, fun h => absurd h hno⟩, fun h => absurd h hcc⟩, fun _ _ _ _ _ _ => hc8⟩, hbW⟩
        by_cases hlt : j < N - N
        · exfalso
          omega
        · obtain rfl : j = N - N := by omega
          have hfull : (h.tail N).take (N - N) = h.tail N := by rw [← HTL.out, List.take_length]
          have hr := HR.out
          rw [hfull] at hr
          obtain ⟨⟨hok, hcur⟩, hp, hfr, hb⟩ := hr
          have HOK := Lib.hid hok
          have HCUR := Lib.hid hcur
          have HMr := Lib.hid (HMM.out.below hb)
          have HBr := Lib.hid ((Kp.refl R C h.lv wo).on hb)
          have hat : Pt.At wr R C h.lv ⟨cur, co, cc⟩ := by
            rcases hfr with h1 | ⟨h1, h2, h3⟩
            · exact HMM.out.fresh hp h1
            · have h4 := HMr.out.parts x.held.pt (.inr ⟨x, List.mem_of_getElem? HK.out, .inr rfl⟩)
              unfold Mb.pt at h4
              rw [← h1, ← h2, ← h3] at h4
              exact h4
          have HAT := Lib.hid hat
          have HPC := Lib.hid hp
          obtain ⟨r0, -, -, -⟩ := HMr.out.cells
          clear hfull hok hfr hb hat hp hj HR hst
          by_cases ha : apErr h.main.data.toList cur = 0
          · have HAP := Lib.hid (Apply_ok h.main co cc cur wr HPC.out ha)
            obtain ⟨tx, htx⟩ : ∃ tx, bs (apT h.main.data.toList cur) = tx := ⟨_, rfl⟩
            rw [htx] at HAP
            have HTX := Lib.hid htx
            have HA := Lib.hid ha
            obtain ⟨DC, hDC⟩ : ∃ DC, cur.length = DC := ⟨_, rfl⟩
            rw [hDC] at HAP ⊢
            have HDC := Lib.hid hDC
            clear ha htx hcur hDC
            go_wp2_with fail
            refine HAP.out.mono ?_
            rintro ee w2 ⟨rfl, hb2⟩
            have HM2 := Lib.hid (HMr.out.below hb2)
            have HB2 := Lib.hid (HBr.out.on hb2)
            have HAT2 := Lib.hid (HAT.out.below hb2)
            clear hb2 HAP r0 HAT HPC
            obtain ⟨r0, r1, r2, rf⟩ := HM2.out.cells
            have rf0 := rf 0
            clear r1 r2 rf
            go_upto_region 21 with fail
            have HM3 := Lib.hid (HM2.out.text tx)
            have hg3 := grown_set2 w2 R 0 (.string tx)
            have HB3 := Lib.hid (HB2.out.row hg3 (fun k e => .inl (.inl (Option.some.inj e).symm)))
            have HAT3 : Hid (Pt.At (w2.setCell ⟨R, 0, none⟩ (.string tx)) R C h.lv ⟨cur, co, cc⟩) := Lib.hid ⟨HAT2.out.1.over hg3.size (fun a ha hl hlt => hg3.block _ hlt (fun e => (HAT2.out.2 a ha hl).1 (Option.some.inj e))), HAT2.out.2⟩
            generalize w2.setCell ⟨R, 0, none⟩ (.string tx) = w3 at HM3 HB3 HAT3 ⊢
            clear hg3 r0 rf0 HAT2 HM2
            obtain ⟨-, -, -, rf⟩ := HM3.out.cells
            have r1 : w3.cell? ⟨R, 1, none⟩ = some (Value.slice (some ⟨g, 0, none⟩) N N) := by have := HM3.out.cells.2.1; rw [show ({ h with main := tx } : Hb).lv = Value.slice (some ⟨g, 0, none⟩) N N from HLV.out] at this; exact this
            have rf1 := rf 1
            have hOWN : w3.ownsRow B 51 2 (Value.slice (some ⟨g, 0, none⟩) N N) N (logCells h.log) := by have := HM3.out.own; rw [show ({ h with main := tx } : Hb).log.length = N from HN.out, show ({ h with main := tx } : Hb).lv = Value.slice (some ⟨g, 0, none⟩) N N from HLV.out] at this; exact this
            have HOWN := Lib.hid hOWN
            have HLR : Hid ((Value.slice (some ⟨g, 0, none⟩) N N : Value).ownBlock ≠ some R) := Lib.hid (by have := HM3.out.lr; rw [show ({ h with main := tx } : Hb).lv = Value.slice (some ⟨g, 0, none⟩) N N from HLV.out] at this; exact this)
            have hB3 : B ≤ w3.heap.size := Nat.le_of_lt (Nat.lt_of_le_of_lt HM3.out.br HM3.out.rlt)
            clear rf hOWN
            go_upto_region 22 with (at_builtin; refine Gx.wpList_push w3 rfl _ _ 46 rfl B 51 (.agg #[.int .i64 0, .slice none 0 0]) 2 32 Try.underlying46 Try.info_noted rfl (by decide) (Value.slice (some ⟨g, 0, none⟩) N N) N (logCells h.log) [.int .i64 k, .slice co DC cc] _ rfl rfl (by exact HOWN.out) rfl rfl (by intro u hu; simp only [List.mem_cons, List.not_mem_nil, or_false] at hu; rcases hu with rfl | rfl <;> rfl) (by omega) (by omega) (by exact hB3) ?_; intro lv' w4 hown4 hg4 hm4 _; have hR1 := (hg4.block _ HM3.out.rlt (fun e => HLR.out e.symm)).trans HM3.out.obj; have k1 : w4.cell? ⟨R, 1, none⟩ = some (Value.slice (some ⟨g, 0, none⟩) N N) := (by simp [World.cell?, hR1, HLV.out]); have k2 : w4.frozen? ⟨R, 1, none⟩ = false := (by simp [World.frozen?, hR1]); obtain ⟨vo4, vc4, rfl⟩ := own_form hown4)
            have hlvm : ({ h with main := tx } : Hb).lv = Value.slice (some ⟨g, 0, none⟩) N N := HLV.out
            have hlnm : ({ h with main := tx } : Hb).log.length = N := HN.out
            have HM5 := Lib.hid (HM3.out.push ⟨k, cur, co, cc⟩ HAT3.out (.slice vo4 (N + 1) vc4) (by rw [hlnm, HDC.out]; exact hown4) (by rw [hlvm]; exact hg4) (by rw [hlvm]; exact hm4))
            have hlow : ∀ b, (Value.slice (some ⟨g, 0, none⟩) N N : Value).ownBlock = some b → B ≤ b := fun b hb => (HOWN.out.lt b hb).1
            have HB5 := Lib.hid ((HB3.out.row hg4 (fun k e => .inl (.inr (.inr (by rw [HLV.out]; exact e))))).row (grown_set2 w4 R 1 (.slice vo4 (N + 1) vc4)) (fun k e => .inl (.inl (Option.some.inj e).symm)))
            generalize w4.setCell ⟨R, 1, none⟩ (.slice vo4 (N + 1) vc4) = w5 at HM5 HB5 ⊢
            obtain ⟨-, -, d2, d3, d4, d5, df⟩ := HM5.out.row.cell (show ({ h with main := tx } : Hb).cls[k]? = some x from HK.out)
            rw [HS.out] at d2
            rw [HH.out] at d4
            have f2 := df (k * 6 + 2)
            have f3 := df (k * 6 + 3)
            have f4 := df (k * 6 + 4)
            have f5 := df (k * 6 + 5)
            clear hlvm hlnm hown4 hg4 hm4 hR1 k1 k2 hlow df r1 rf1
            go_wp2_with fail
            try go_ret
            have r1 := HM5.out.row.store (show ({ h with main := tx } : Hb).cls[k]? = some x from HK.out) 2 (.bool true) (by decide) { x with sent := { x.sent with is := true } } rfl
            have r2 := r1.store (get_set HK.out) 3 (.slice x.held.ad x.held.l.length x.held.cap) (by decide) { x with sent := x.held } (by simp [Cl.cells, HH.out])
            have r3 := r2.store (get_set (get_set HK.out)) 4 (.bool false) (by decide) { x with sent := x.held, held := { x.held with is := false } } rfl
            have r4 := r3.store (get_set (get_set (get_set HK.out))) 5 (.slice none 0 0) (by decide) { x with sent := x.held, held := Mb.none } rfl
            rw [set_set, set_set, set_set] at r4
            have hgr := (((grown_set2 w5 C (k * 6 + 2) (.bool true)).trans (grown_set2 _ C (k * 6 + 3) (.slice x.held.ad x.held.l.length x.held.cap))).trans (grown_set2 _ C (k * 6 + 4) (.bool false))).trans (grown_set2 _ C (k * 6 + 5) (.slice none 0 0))
            have hm9 := HM5.out.client (c' := { x with sent := x.held, held := Mb.none }) r4 hgr (.inr (.inr ⟨x, List.mem_of_getElem? HK.out, .inr rfl⟩)) (.inl ⟨PR.nil _ _ _ (fun _ => rfl) (show (0 : Nat) ≤ 9223372036854775807 from Nat.zero_le _), fun a ha => by cases ha⟩)
            refine ⟨0, _, rfl, hm9, ⟨fun hn => absurd HIN.out hn, fun h => absurd rfl h, fun k' y hk' hy h1 => ?_, fun k' y hk' hy h1 h2 => ?_, fun k' y hk' hy h1 h2 => ?_, fun _ _ _ _ _ _ => by decide⟩, HB5.out.row hgr (fun k e => .inl (.inr (.inl (Option.some.inj e).symm)))⟩
            all_goals
              obtain rfl : k = k' := by omega
              obtain rfl := HSM.out y hy
            · rw [HS.out] at h1
              exact absurd h1 (by decide)
            · rw [HH.out] at h2
              exact absurd h2 (by decide)
            · rw [HSN.out]
              exact ⟨⟨fun _ => ⟨HOK.out, by rw [← HCUR.out]; exact HA.out⟩, fun _ => rfl⟩, fun _ => ⟨⟨k, cur, co, cc⟩, _, rfl, HCUR.out, by rw [← HCUR.out, HTX.out]⟩⟩
          · have HAP := Lib.hid (Apply_no h.main co cc cur wr HPC.out ha)
            obtain ⟨c3, hc3⟩ : ∃ c3, apErr h.main.data.toList cur = c3 := ⟨_, rfl⟩
            have HA := Lib.hid ha
            rw [hc3] at HAP ha
            have tc : (c3 != 0) = true := by simpa using ha
            have HC3 := Lib.hid ha
            have H38 : Hid (c3 ≠ 8) := Lib.hid (by rw [← hc3]; exact apErr_ne8 _ _)
            clear ha hc3 hcur
            go_wp2_with fail
            refine HAP.out.mono ?_
            rintro ee w2 ⟨rfl, hb2⟩
            have HM2 := Lib.hid (HMr.out.below hb2)
            have HB2 := Lib.hid (HBr.out.on hb2)
            clear hb2
            go_wp2_with fail
            try go_ret
            exact HNC.out c3 _ HC3.out H38.out HM2.out HB2.out (fun h => HA.out (by rw [HCUR.out]; exact h.2))
    · have q1 : ¬ S = lc := fun h => hSl h.symm
      have q2 : ¬ (S : Int) = (lc : Int) := by omega
      have q3 : S < lc := by omega
      have q4 : (N : Int) ≤ (lc : Int) := by omega
      go_quiet (fail)
      have HDR := Lib.hid (Gx.drewN_below w1 nq w1.heap.size)
      go_wp2_with fail
      obtain ⟨wo, rfl⟩ : ∃ wo : World, wo = w1 := ⟨_, rfl⟩
      clear c1 d1 d4 d5 H
      go_loopw [6, 52] (fun v6 v52 wr => ∃ (j : Nat) (co : Option Addr) (cc : Nat) (cur : List Part), j ≤ N - S ∧ v52 = .int .i64 j ∧ v6 = .slice co cur.length cc ∧
          Hid ((sendOk ((h.tail S).take j) x.held.l ∧ cur = sendT ((h.tail S).take j) x.held.l) ∧ PR wr co cc cur ∧ (Fresh wo.heap.size co ∨ (co = x.held.ad ∧ cc = x.held.cap ∧ cur = x.held.l)) ∧ Below wo.heap.size wo wr)) (fun _ v52 _ => (N - S) - (intOf v52).toNat)
      case atStart => exact ⟨0, x.held.ad, x.held.cap, x.held.l, Nat.zero_le _, rfl, by rw [HD.out], Lib.hid ⟨⟨by rw [List.take_zero]; exact trivial, by rw [List.take_zero]; rfl⟩, HPH.out.keep HDR.out, .inr ⟨rfl, rfl, rfl⟩, HDR.out⟩⟩
      case round =>
        obtain ⟨j, co, cc, cur, hj, rfl, rfl, HR⟩ := hrel
        have hst : SendStep h k 0 h → True := fun _ => trivial
        have HNC : Hid (∀ (c9 : Int) (W : World), c9 ≠ 0 → c9 ≠ 8 → HM B R C cap h W → Kp R C h.lv wo W → ¬ (sendOk (h.tail S) x.held.l ∧ apErr h.main.data.toList (sendT (h.tail S) x.held.l) = 0) → SendP B R C cap h k wo (.returned (.int .i64 c9)) W) := Lib.hid fun c9 W hcc hc8 hW hbW hno =>
          ⟨c9, h, rfl, hW, ⟨fun hn => absurd HIN.out hn, fun _ => rfl, fun k' y hk' hy h1 => by
            obtain rfl : k = k' := by omega
            obtain rfl := HSM.out y hy
            rw [HS.out] at h1
            exact absurd h1 (by decide), fun k' y hk' hy h1 h2 => by
            obtain rfl : k = k' := by omega
            obtain rfl := HSM.out y hy
            rw [HH.out] at h2
            exact absurd h2 (by decide), fun k' y hk' hy h1 h2 => by
            obtain rfl : k = k' := by omega
            obtain rfl := HSM.out y hy
            rw [HSN.out]
            exact ⟨⟨fun h => absurd h hcc, fun h => absurd h hno⟩, fun h => absurd h hcc⟩, fun _ _ _ _ _ _ => hc8⟩, hbW⟩
        by_cases hlt : j < N - S
        · have j1 : (0 : Int) ≤ (j : Int) := by omega
          have j2 : (j : Int) < ((N - S : Nat) : Int) := by omega
          have j3 : (j : Int) < (N : Int) - (S : Int) := by omega
          obtain ⟨e, he⟩ : ∃ e, h.log[S + j]? = some e := ⟨_, List.getElem?_eq_getElem (by rw [HN.out]; omega)⟩
          obtain ⟨⟨hok, hcur⟩, hp, hfr, hb⟩ := HR.out
          have hbs := hb.size
          obtain ⟨g0, g1⟩ := hgc (S + j) e he
          have e0 := (hb.cell (p := ⟨g, (S + j) * 2, none⟩) hgl).trans g0
          have e1 := (hb.cell (p := ⟨g, (S + j) * 2 + 1, none⟩) hgl).trans g1
          rw [show (S + j) * 2 = S * 2 + j * 2 by omega] at e0 e1
          have hMr := HMM.out.below hb
          have hpe : PR wr e.ad e.cap e.l := (hMr.parts e.pt (.inl ⟨e, List.mem_of_getElem? he, rfl⟩)).1
          have ha := (Below.refl wr.heap.size wr).alloc (Nat.le_refl _) (.cells #[.int .i64 e.who, .slice e.ad e.l.length e.cap] 51)
          have HTR := Lib.hid (Transform_w e.ad co e.cap cc e.l cur _ (hpe.keep ha) (hp.keep ha))
          obtain ⟨b0, b1, -⟩ := two_cells (heap_alloc_new wr (.cells #[.int .i64 e.who, .slice e.ad e.l.length e.cap] 51))
          have htk : (h.tail S).take (j + 1) = (h.tail S).take j ++ [e.l] := by
            rw [List.take_add_one, HTG.out j e he]
            rfl
          have HTK := Lib.hid htk
          have HOKC := Lib.hid (And.intro hok hcur)
          have HBA := Lib.hid (hb.trans (ha.mono hbs))
          have HMA := Lib.hid (hMr.below ha)
          have hspl : ¬ TrOk e.l cur → ¬ sendOk (h.tail S) x.held.l := fun hno hall => by
            have h1 := List.take_append_drop (j + 1) (h.tail S)
            rw [← h1, sendOk_append, htk, sendOk_append] at hall
            have h2 := hall.1.2.1
            rw [← hcur] at h2
            exact hno h2
          have HSPL := Lib.hid hspl
          obtain ⟨el, hel⟩ : ∃ el, e.l.length = el := ⟨_, rfl⟩
          rw [hel] at e1 b1 HTR HBA HMA
          obtain ⟨cl, hcl⟩ : ∃ cl, cur.length = cl := ⟨_, rfl⟩
          rw [hcl] at HTR ⊢
          clear htk hspl hok hcur hp hfr hb hpe ha hMr g0 g1 he HR hcl
          go_wp2_with fail
          try rw [hel]
          generalize wr.alloc (.cells #[.int .i64 e.who, .slice e.ad el e.cap] 51) = wa at HTR HBA HMA b0 b1 ⊢
          refine HTR.out.mono ?_
          rintro ee w9 ⟨mo, no, n, k2, mc, nc, c9, rfl, hc1, hc2, ⟨-, h98⟩, hb9⟩
          have H98 := Lib.hid h98
          clear h98
          have HB9 := Lib.hid (HBA.out.trans (hb9.mono HBA.out.size))
          have HM9 := Lib.hid (HMA.out.below hb9)
          by_cases hc9 : c9 = 0
          · subst hc9
            obtain ⟨-, hk2, hp9, hf9⟩ := hc2 rfl
            have HREL : Hid ((sendOk ((h.tail S).take (j + 1)) x.held.l ∧ trR e.l cur = sendT ((h.tail S).take (j + 1)) x.held.l) ∧ PR w9 no nc (trR e.l cur) ∧ (Fresh wo.heap.size no ∨ (no = x.held.ad ∧ nc = x.held.cap ∧ trR e.l cur = x.held.l)) ∧ Below wo.heap.size wo w9) := Lib.hid ⟨by
              rw [HTK.out, sendOk_append, sendT_append, ← HOKC.out.2]
              exact ⟨⟨HOKC.out.1, hc1.1 rfl, trivial⟩, rfl⟩, hp9, .inl (fun a ha => Nat.le_trans HBA.out.size (hf9 a ha)), HB9.out⟩
            have HK2 := Lib.hid hk2
            clear hc1 hc2 hb9 hp9 hf9 hk2
            go_wp2_with fail
            exact ⟨⟨j + 1, no, nc, trR e.l cur, by omega, by go_num, by rw [HK2.out], HREL⟩, by simp [intOf]; omega⟩
          · have tc : (c9 != 0) = true := by simpa using hc9
            have HNO : Hid (¬ TrOk e.l cur) := Lib.hid fun h => hc9 (hc1.2 h)
            clear hc1 hc2 hb9
            go_wp2_with fail
            try go_ret
            exact HNC.out c9 _ hc9 H98.out HM9.out ((Kp.refl R C h.lv wo).on HB9.out) (fun h => HSPL.out HNO.out h.1)
        · obtain rfl : j = N - S := by omega
          have hfull : (h.tail S).take (N - S) = h.tail S := by rw [← HTL.out, List.take_length]
          have hr := HR.out
          rw [hfull] at hr
          obtain ⟨⟨hok, hcur⟩, hp, hfr, hb⟩ := hr
          have HOK := Lib.hid hok
          have HCUR := Lib.hid hcur
          have HMr := Lib.hid (HMM.out.below hb)
          have HBr := Lib.hid ((Kp.refl R C h.lv wo).on hb)
          have hat : Pt.At wr R C h.lv ⟨cur, co, cc⟩ := by
            rcases hfr with h1 | ⟨h1, h2, h3⟩
            · exact HMM.out.fresh hp h1
            · have h4 := HMr.out.parts x.held.pt (.inr ⟨x, List.mem_of_getElem? HK.out, .inr rfl⟩)
              unfold Mb.pt at h4
              rw [← h1, ← h2, ← h3] at h4
              exact h4
          have HAT := Lib.hid hat
          have HPC := Lib.hid hp
          obtain ⟨r0, -, -, -⟩ := HMr.out.cells
          clear hfull hok hfr hb hat hp hj HR hst
          by_cases ha : apErr h.main.data.toList cur = 0
          · have HAP := Lib.hid (Apply_ok h.main co cc cur wr HPC.out ha)
            obtain ⟨tx, htx⟩ : ∃ tx, bs (apT h.main.data.toList cur) = tx := ⟨_, rfl⟩
            rw [htx] at HAP
            have HTX := Lib.hid htx
            have HA := Lib.hid ha
            obtain ⟨DC, hDC⟩ : ∃ DC, cur.length = DC := ⟨_, rfl⟩
            rw [hDC] at HAP ⊢
            have HDC := Lib.hid hDC
            clear ha htx hcur hDC
            go_wp2_with fail
            refine HAP.out.mono ?_
            rintro ee w2 ⟨rfl, hb2⟩
            have HM2 := Lib.hid (HMr.out.below hb2)
            have HB2 := Lib.hid (HBr.out.on hb2)
            have HAT2 := Lib.hid (HAT.out.below hb2)
            clear hb2 HAP r0 HAT HPC
            obtain ⟨r0, r1, r2, rf⟩ := HM2.out.cells
            have rf0 := rf 0
            clear r1 r2 rf
            go_upto_region 21 with fail
            have HM3 := Lib.hid (HM2.out.text tx)
            have hg3 := grown_set2 w2 R 0 (.string tx)
            have HB3 := Lib.hid (HB2.out.row hg3 (fun k e => .inl (.inl (Option.some.inj e).symm)))
            have HAT3 : Hid (Pt.At (w2.setCell ⟨R, 0, none⟩ (.string tx)) R C h.lv ⟨cur, co, cc⟩) := Lib.hid ⟨HAT2.out.1.over hg3.size (fun a ha hl hlt => hg3.block _ hlt (fun e => (HAT2.out.2 a ha hl).1 (Option.some.inj e))), HAT2.out.2⟩
            generalize w2.setCell ⟨R, 0, none⟩ (.string tx) = w3 at HM3 HB3 HAT3 ⊢
            clear hg3 r0 rf0 HAT2 HM2
            obtain ⟨-, -, -, rf⟩ := HM3.out.cells
            have r1 : w3.cell? ⟨R, 1, none⟩ = some (Value.slice (some ⟨g, 0, none⟩) N lc) := by have := HM3.out.cells.2.1; rw [show ({ h with main := tx } : Hb).lv = Value.slice (some ⟨g, 0, none⟩) N lc from HLV.out] at this; exact this
            have rf1 := rf 1
            have hOWN : w3.ownsRow B 51 2 (Value.slice (some ⟨g, 0, none⟩) N lc) N (logCells h.log) := by have := HM3.out.own; rw [show ({ h with main := tx } : Hb).log.length = N from HN.out, show ({ h with main := tx } : Hb).lv = Value.slice (some ⟨g, 0, none⟩) N lc from HLV.out] at this; exact this
            have HOWN := Lib.hid hOWN
            have HLR : Hid ((Value.slice (some ⟨g, 0, none⟩) N lc : Value).ownBlock ≠ some R) := Lib.hid (by have := HM3.out.lr; rw [show ({ h with main := tx } : Hb).lv = Value.slice (some ⟨g, 0, none⟩) N lc from HLV.out] at this; exact this)
            have hB3 : B ≤ w3.heap.size := Nat.le_of_lt (Nat.lt_of_le_of_lt HM3.out.br HM3.out.rlt)
            clear rf hOWN
            go_upto_region 22 with (at_builtin; refine Gx.wpList_push w3 rfl _ _ 46 rfl B 51 (.agg #[.int .i64 0, .slice none 0 0]) 2 32 Try.underlying46 Try.info_noted rfl (by decide) (Value.slice (some ⟨g, 0, none⟩) N lc) N (logCells h.log) [.int .i64 k, .slice co DC cc] _ rfl rfl (by exact HOWN.out) rfl rfl (by intro u hu; simp only [List.mem_cons, List.not_mem_nil, or_false] at hu; rcases hu with rfl | rfl <;> rfl) (by omega) (by omega) (by exact hB3) ?_; intro lv' w4 hown4 hg4 hm4 _; have hR1 := (hg4.block _ HM3.out.rlt (fun e => HLR.out e.symm)).trans HM3.out.obj; have k1 : w4.cell? ⟨R, 1, none⟩ = some (Value.slice (some ⟨g, 0, none⟩) N lc) := (by simp [World.cell?, hR1, HLV.out]); have k2 : w4.frozen? ⟨R, 1, none⟩ = false := (by simp [World.frozen?, hR1]); obtain ⟨vo4, vc4, rfl⟩ := own_form hown4)
            have hlvm : ({ h with main := tx } : Hb).lv = Value.slice (some ⟨g, 0, none⟩) N lc := HLV.out
            have hlnm : ({ h with main := tx } : Hb).log.length = N := HN.out
            have HM5 := Lib.hid (HM3.out.push ⟨k, cur, co, cc⟩ HAT3.out (.slice vo4 (N + 1) vc4) (by rw [hlnm, HDC.out]; exact hown4) (by rw [hlvm]; exact hg4) (by rw [hlvm]; exact hm4))
            have hlow : ∀ b, (Value.slice (some ⟨g, 0, none⟩) N lc : Value).ownBlock = some b → B ≤ b := fun b hb => (HOWN.out.lt b hb).1
            have HB5 := Lib.hid ((HB3.out.row hg4 (fun k e => .inl (.inr (.inr (by rw [HLV.out]; exact e))))).row (grown_set2 w4 R 1 (.slice vo4 (N + 1) vc4)) (fun k e => .inl (.inl (Option.some.inj e).symm)))
            generalize w4.setCell ⟨R, 1, none⟩ (.slice vo4 (N + 1) vc4) = w5 at HM5 HB5 ⊢
            obtain ⟨-, -, d2, d3, d4, d5, df⟩ := HM5.out.row.cell (show ({ h with main := tx } : Hb).cls[k]? = some x from HK.out)
            rw [HS.out] at d2
            rw [HH.out] at d4
            have f2 := df (k * 6 + 2)
            have f3 := df (k * 6 + 3)
            have f4 := df (k * 6 + 4)
            have f5 := df (k * 6 + 5)
            clear hlvm hlnm hown4 hg4 hm4 hR1 k1 k2 hlow df r1 rf1
            go_wp2_with fail
            try go_ret
            have r1 := HM5.out.row.store (show ({ h with main := tx } : Hb).cls[k]? = some x from HK.out) 2 (.bool true) (by decide) { x with sent := { x.sent with is := true } } rfl
            have r2 := r1.store (get_set HK.out) 3 (.slice x.held.ad x.held.l.length x.held.cap) (by decide) { x with sent := x.held } (by simp [Cl.cells, HH.out])
            have r3 := r2.store (get_set (get_set HK.out)) 4 (.bool false) (by decide) { x with sent := x.held, held := { x.held with is := false } } rfl
            have r4 := r3.store (get_set (get_set (get_set HK.out))) 5 (.slice none 0 0) (by decide) { x with sent := x.held, held := Mb.none } rfl
            rw [set_set, set_set, set_set] at r4
            have hgr := (((grown_set2 w5 C (k * 6 + 2) (.bool true)).trans (grown_set2 _ C (k * 6 + 3) (.slice x.held.ad x.held.l.length x.held.cap))).trans (grown_set2 _ C (k * 6 + 4) (.bool false))).trans (grown_set2 _ C (k * 6 + 5) (.slice none 0 0))
            have hm9 := HM5.out.client (c' := { x with sent := x.held, held := Mb.none }) r4 hgr (.inr (.inr ⟨x, List.mem_of_getElem? HK.out, .inr rfl⟩)) (.inl ⟨PR.nil _ _ _ (fun _ => rfl) (show (0 : Nat) ≤ 9223372036854775807 from Nat.zero_le _), fun a ha => by cases ha⟩)
            refine ⟨0, _, rfl, hm9, ⟨fun hn => absurd HIN.out hn, fun h => absurd rfl h, fun k' y hk' hy h1 => ?_, fun k' y hk' hy h1 h2 => ?_, fun k' y hk' hy h1 h2 => ?_, fun _ _ _ _ _ _ => by decide⟩, HB5.out.row hgr (fun k e => .inl (.inr (.inl (Option.some.inj e).symm)))⟩
            all_goals
              obtain rfl : k = k' := by omega
              obtain rfl := HSM.out y hy
            · rw [HS.out] at h1
              exact absurd h1 (by decide)
            · rw [HH.out] at h2
              exact absurd h2 (by decide)
            · rw [HSN.out]
              exact ⟨⟨fun _ => ⟨HOK.out, by rw [← HCUR.out]; exact HA.out⟩, fun _ => rfl⟩, fun _ => ⟨⟨k, cur, co, cc⟩, _, rfl, HCUR.out, by rw [← HCUR.out, HTX.out]⟩⟩
          · have HAP := Lib.hid (Apply_no h.main co cc cur wr HPC.out ha)
            obtain ⟨c3, hc3⟩ : ∃ c3, apErr h.main.data.toList cur = c3 := ⟨_, rfl⟩
            have HA := Lib.hid ha
            rw [hc3] at HAP ha
            have tc : (c3 != 0) = true := by simpa using ha
            have HC3 := Lib.hid ha
            have H38 : Hid (c3 ≠ 8) := Lib.hid (by rw [← hc3]; exact apErr_ne8 _ _)
            clear ha hc3 hcur
            go_wp2_with fail
            refine HAP.out.mono ?_
            rintro ee w2 ⟨rfl, hb2⟩
            have HM2 := Lib.hid (HMr.out.below hb2)
            have HB2 := Lib.hid (HBr.out.on hb2)
            clear hb2
            go_wp2_with fail
            try go_ret
            exact HNC.out c3 _ HC3.out H38.out HM2.out HB2.out (fun h => HA.out (by rw [HCUR.out]; exact h.2))
end Go.Proofs.Ytaibpnblnigkgaa
