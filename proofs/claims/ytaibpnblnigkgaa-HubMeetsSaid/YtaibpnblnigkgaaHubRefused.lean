/-
  The walk of HubRefused. Conditions: the acts lie in memory.
-/
import Derived.Test.YtaibpnblnigkgaaHubHubs
namespace Go.Proofs.Ytaibpnblnigkgaa
open Go.RowKit Gx
set_option maxRecDepth 100000

theorem Good.parts {h : Hb} (g : Good h) : ∀ e ∈ h.log, e.l.length ≤ 100000 := fun e he => by
  have := (chk_zero.1 (g.lg e he)).1
  omega
/-- what an act did: it was refused, and nothing is changed; or not, and what was typed is on its way -/
structure Acted (h : Hb) (kind : Int) (c : Int) (h' : Hb) : Prop where
  good : Good h'
  len : h'.log.length ≤ h.log.length + 1
  no : c ≠ 0 → h' = h
  typed : kind = 1 → c = 0 → h'.main = h.main ∧ h'.quiet = false
def ActP (B R C cap : Nat) (h : Hb) (kind : Int) (w : World) (e : Ending) (w' : World) : Prop :=
  ∃ (c : Int) (h' : Hb), e = .returned (.int .i64 c) ∧ HM B R C cap h' w' ∧ Acted h kind c h' ∧ Kp R C h.lv w w'
theorem act_type {B R C cap : Nat} {h : Hb} {w : World} (m : HM B R C cap h w) (g : Good h) (n : Int) (pd : Option Addr) (pc : Nat) (l : List Part) (hp : PR w pd pc l) :
    Calls Try.prog 16 #[.pointer (some ⟨R, 0, none⟩), .int .i64 n, .slice pd l.length pc] w (ActP B R C cap h 1 w) := by
  refine (Type_any m n pd pc l hp).mono ?_
  rintro e w' ⟨c, h', rfl, hm, hs, hb⟩
  refine ⟨c, h', rfl, hm, ⟨g.type hs, by rw [(type_log hs).1]; exact Nat.le_succ _, hs.no, fun _ hc => ?_⟩, hb⟩
  subst hc
  exact ⟨(type_log hs).2, type_busy hs⟩
theorem act_send {B R C cap : Nat} {h : Hb} {w : World} (m : HM B R C cap h w) (g : Good h) (hl : h.log.length ≤ 100000) (n : Int) (kind : Int) (hk : kind ≠ 1) :
    Calls Try.prog 17 #[.pointer (some ⟨R, 0, none⟩), .int .i64 n] w (ActP B R C cap h kind w) := by
  refine (Send_any m g hl n).mono ?_
  rintro e w' ⟨c, h', rfl, hm, hs, hb⟩
  exact ⟨c, h', rfl, hm, ⟨(g.send hs).1, (g.send hs).2, hs.no, fun h => absurd h hk⟩, hb⟩
theorem act_recv {B R C cap : Nat} {h : Hb} {w : World} (m : HM B R C cap h w) (g : Good h) (hl : h.log.length ≤ 100000) (n : Int) (kind : Int) (hk : kind ≠ 1) :
    Calls Try.prog 18 #[.pointer (some ⟨R, 0, none⟩), .int .i64 n] w (ActP B R C cap h kind w) := by
  refine (Recv_any m g hl n).mono ?_
  rintro e w' ⟨c, h', rfl, hm, hs, hb⟩
  exact ⟨c, h', rfl, hm, ⟨g.recv hs, by rw [recv_log g hs]; exact Nat.le_succ _, hs.no, fun h => absurd h hk⟩, hb⟩
theorem act_cells {w : World} {b : Nat} {x0 x1 x2 : Value} {ty : TypeId} {p : Nat × Nat} (h : w.heap[b]? = some (.cells #[x0, x1, x2] ty p)) : w.cell? ⟨b, 0, none⟩ = some x0 ∧ w.cell? ⟨b, 1, none⟩ = some x1 ∧ w.cell? ⟨b, 2, none⟩ = some x2 :=
  ⟨by simp [World.cell?, h], by simp [World.cell?, h], by simp [World.cell?, h]⟩

set_option maxHeartbeats 16000000 in
theorem hubRefused_walk (text : ByteArray) (n : Int) (wn : (Lit.int .i64 n).wf = true) (ad : Option Addr) (cap : Nat) (L : List Ac) (w : World) (hL : AW w ad cap L) (hsz : text.size ≤ 9223372036854775807) : Calls Try.prog 5 #[.string text, .int .i64 n, .slice ad L.length cap] w (TruePost w) := by
  have HH := Lib.hid (hubs_any w)
  have HAW := Lib.hid hL
  have hcap := hL.ncap
  have hcap63 := hL.cap63
  obtain ⟨M, hM⟩ : ∃ M, L.length = M := ⟨_, rfl⟩
  have HLM := Lib.hid hM
  rw [hM] at hcap ⊢
  clear hL hM
  by_cases hbad : n < 1 ∨ 8 < n ∨ 20000 < text.size
  · have HAN := Lib.hid (fun wz => acted_no text n wz hbad)
    have hb3 : n < 1 ∨ (¬ n < 1 ∧ 8 < n) ∨ (¬ n < 1 ∧ ¬ 8 < n ∧ 20000 < text.size) := by omega
    clear hbad
    rcases hb3 with h1 | ⟨h1, h2⟩ | ⟨h1, h2, h3⟩
    · have t1 : decide (n < 1) = true := decide_eq_true h1
      clear h1
      go_enter Try.func5, Try.ntmps5
      go_wp2_with fail
      refine HH.out.mono ?_
      rintro e w1 ⟨rfl, hb1⟩
      have HB1 := Lib.hid hb1
      clear hb1
      go_wp2_with fail
      refine (HAN.out w1).mono ?_
      rintro e w2 ⟨rfl, rfl⟩
      go_wp2_with fail
      try go_ret
      exact ⟨rfl, HB1.out⟩
    · have t1 : decide (n < 1) = false := decide_eq_false h1
      have t2 : decide (8 < n) = true := decide_eq_true h2
      clear h1 h2
      go_enter Try.func5, Try.ntmps5
      go_wp2_with fail
      refine HH.out.mono ?_
      rintro e w1 ⟨rfl, hb1⟩
      have HB1 := Lib.hid hb1
      clear hb1
      go_wp2_with fail
      refine (HAN.out w1).mono ?_
      rintro e w2 ⟨rfl, rfl⟩
      go_wp2_with fail
      try go_ret
      exact ⟨rfl, HB1.out⟩
    · have t1 : decide (n < 1) = false := decide_eq_false h1
      have t2 : decide (8 < n) = false := decide_eq_false h2
      have t3 : decide ((20000 : Int) < (text.size : Int)) = true := decide_eq_true (by omega)
      have t4 : decide (20000 < text.size) = true := decide_eq_true h3
      clear h1 h2 h3
      go_enter Try.func5, Try.ntmps5
      go_wp2_with fail
      refine HH.out.mono ?_
      rintro e w1 ⟨rfl, hb1⟩
      have HB1 := Lib.hid hb1
      clear hb1
      go_wp2_with fail
      refine (HAN.out w1).mono ?_
      rintro e w2 ⟨rfl, rfl⟩
      go_wp2_with fail
      try go_ret
      exact ⟨rfl, HB1.out⟩
  · obtain ⟨k, rfl⟩ : ∃ k : Nat, n = (k : Int) := ⟨n.toNat, by omega⟩
    have HAN := Lib.hid (fun wz => acted_new text k wz (by omega) (by omega) (by omega))
    have g8 : k ≤ 8 := by omega
    have t1 : decide ((k : Int) < 1) = false := decide_eq_false (by omega)
    have t2 : decide (8 < (k : Int)) = false := decide_eq_false (by omega)
    have t3 : decide ((20000 : Int) < (text.size : Int)) = false := decide_eq_false (by omega)
    have t4 : decide (20000 < text.size) = false := decide_eq_false (by omega)
    clear hbad wn
    by_cases h80 : 80 < M
    · have t5 : decide ((80 : Int) < (M : Int)) = true := decide_eq_true (by omega)
      have t6 : decide (80 < M) = true := decide_eq_true h80
      go_enter Try.func5, Try.ntmps5
      go_wp2_with fail
      refine HH.out.mono ?_
      rintro e w1 ⟨rfl, hb1⟩
      have HB1 := Lib.hid hb1
      clear hb1
      go_wp2_with fail
      refine (HAN.out w1).mono ?_
      rintro e w2 ⟨R, C, cc, rfl, hm, hb⟩
      have HB2 := Lib.hid (HB1.out.trans (hb.mono HB1.out.size))
      clear hm hb
      go_wp2_with fail
      try go_ret
      exact ⟨rfl, HB2.out⟩
    · have t5 : decide ((80 : Int) < (M : Int)) = false := decide_eq_false (by omega)
      have t6 : decide (80 < M) = false := decide_eq_false h80
      go_enter Try.func5, Try.ntmps5
      go_wp2_with fail
      refine HH.out.mono ?_
      rintro e w1 ⟨rfl, hb1⟩
      have HB1 := Lib.hid hb1
      clear hb1
      go_wp2_with fail
      refine (HAN.out w1).mono ?_
      rintro e w2 ⟨R, C, cc, rfl, hm, hb⟩
      have HM2 := Lib.hid hm
      have HB2 := Lib.hid (HB1.out.trans (hb.mono HB1.out.size))
      have HBB : Hid (w.heap.size ≤ w1.heap.size) := Lib.hid HB1.out.size
      have HG2 := Lib.hid (Good.new text k g8)
      clear hm hb t1 t2 t3 t4 t5 t6
      go_wp2_with fail
      go_loopw [49] (fun v49 wr => ∃ (j : Nat) (h : Hb), j ≤ M ∧ v49 = .int .i64 j ∧ Hid (HM w1.heap.size R C cc h wr ∧ Good h ∧ h.log.length ≤ j ∧ Below w.heap.size w wr)) (fun v49 _ => M - (intOf v49).toNat)
      case atStart => exact ⟨0, _, Nat.zero_le _, rfl, Lib.hid ⟨HM2.out, HG2.out, Nat.le_refl _, HB2.out⟩⟩
      case round =>
        obtain ⟨j, h, hj, rfl, HR⟩ := hrel
        by_cases hlt : j < M
        · obtain ⟨q, hq⟩ : ∃ q, L[j]? = some q := ⟨_, List.getElem?_eq_getElem (by rw [HLM.out]; exact hlt)⟩
          obtain ⟨hm, hg, hlj, hb⟩ := HR.out
          obtain ⟨b, off, had, hbl, c0, c1, c2, hpr⟩ := (HAW.out.keep hb).at_ j q hq
          subst had
          have hll : h.log.length ≤ 100000 := by omega
          have ha := (Below.refl wr.heap.size wr).alloc (Nat.le_refl _) (.cells #[.int .i64 q.kind, .int .i64 q.client, .slice q.ad q.l.length q.cap] 41)
          have HMa := Lib.hid (hm.below ha)
          have HGD := Lib.hid hg
          have HPR := Lib.hid (hpr.keep ha)
          have HOB := Lib.hid (heap_alloc_new wr (.cells #[.int .i64 q.kind, .int .i64 q.client, .slice q.ad q.l.length q.cap] 41))
          have HRa := Lib.hid (hb.trans (ha.mono hb.size))
          have HNO : Hid (¬ Own R C h.lv wr.heap.size) := Lib.hid fun hk => by
            rcases hk with h1 | h1 | h1
            · have := hm.rlt; omega
            · have := hm.row.lt; omega
            · have := (hm.own.lt _ h1).2; omega
          obtain ⟨T, hT⟩ : ∃ T, wr.heap.size = T := ⟨_, rfl⟩
          obtain ⟨QL, hQL⟩ : ∃ QL, q.l.length = QL := ⟨_, rfl⟩
          rw [hQL] at c2 HMa HPR HOB HRa
          have HQL := Lib.hid hQL
          have i1 : (0 : Int) ≤ (j : Int) := by omega
          have i2 : (j : Int) < (M : Int) := by omega
          clear hq hm hg hb hbl hpr ha HR hQL
          go_upto_region 9 with fail
          try rw [hT]
          try rw [HQL.out]
          rw [hT] at HNO HOB
          generalize wr.alloc (.cells #[.int .i64 q.kind, .int .i64 q.client, .slice q.ad QL q.cap] 41) = wa at HMa HPR HOB HRa ⊢
          have HTL : Hid (T < wa.heap.size) := Lib.hid (Array.getElem?_eq_some_iff.1 HOB.out).1
          have HMA := Lib.hid (Main_any HMa.out)
          clear c0 c1 c2 hT
          go_wp2_with fail
          refine HMA.out.mono ?_
          rintro e wa ⟨rfl, rfl⟩
          clear HMA
          go_wp2_with fail
          refine (Log_any HMa.out hll HGD.out.parts).mono ?_
          rintro e w3 ⟨vo3, vc3, rfl, -, hb3, -⟩
          have HM3 := Lib.hid (HMa.out.below hb3)
          have HBW3 := Lib.hid hb3
          clear hb3
          go_wp2_with fail
          refine (Quiet_any HM3.out HGD.out.n8).mono ?_
          rintro e w5 ⟨rfl, hb5⟩
          have HM5 := Lib.hid (HM3.out.below hb5)
          have HBW := Lib.hid (HBW3.out.trans (hb5.mono HBW3.out.size))
          have HRUN := Lib.hid (HRa.out.trans (HBW.out.mono HRa.out.size))
          have HOB5 := Lib.hid ((HBW.out.block T HTL.out).trans HOB.out)
          clear hb5 HBW3
          obtain ⟨b0, b1, b2⟩ := act_cells HOB5.out
          go_wp2_with fail
          refine (Text_any HM5.out q.client).mono ?_
          rintro e w6 ⟨⟨c6, rfl⟩, rfl⟩
          go_wp2_with fail
          refine (Seen_any HM5.out q.client).mono ?_
          rintro e w6 ⟨rfl, rfl⟩
          have HPR5 := Lib.hid (HPR.out.keep HBW.out)
          by_cases hk1 : q.kind = 1
          · have HKD := Lib.hid hk1
            have u1 : (q.kind == 1) = true := by simpa using hk1
            have HACT := Lib.hid (act_type HM5.out HGD.out q.client q.ad q.cap q.l HPR5.out)
            rw [HQL.out] at HACT
            rw [hk1] at b0 u1
            have HOB0 := HOB
            clear hk1
            go_wp2_with fail
            refine HACT.out.mono ?_
            rintro e w7 ⟨c, h', rfl, hm, ha, hb⟩
            have HM7 := Lib.hid hm
            have HAC := Lib.hid ha
            have HB7 := Lib.hid (hb.below HM5.out.low (Nat.le_of_lt (Nat.lt_of_le_of_lt HM5.out.br HM5.out.rlt)))
            have hob := (hb.block T (Nat.lt_of_lt_of_le HTL.out HBW.out.size) (HNO.out)).trans ((HBW.out.block T HTL.out).trans HOB.out)
            have HOB7 := Lib.hid hob
            have HR7 := Lib.hid (HRUN.out.trans (HB7.out.mono HBB.out))
            clear b0 b1 b2 hm ha hb HACT hob
            obtain ⟨b0, b1, b2⟩ := act_cells HOB7.out
            go_wp2_with fail
            refine (Text_any HM7.out q.client).mono ?_
            rintro e w8 ⟨⟨c8, rfl⟩, rfl⟩
            by_cases hc : c = 0
            · subst hc
              have HMA := Lib.hid (Main_any HM7.out)
              have HQU := Lib.hid (Quiet_any HM7.out HAC.out.good.n8)
              obtain ⟨ty1, ty2⟩ := HAC.out.typed rfl rfl
              rw [ty1] at HMA
              rw [ty2] at HQU
              have m2 : (h.main.toList != h.main.toList) = false := by simp
              go_wp2_with fail
              refine HMA.out.mono ?_
              rintro e w9 ⟨rfl, rfl⟩
              go_wp2_with fail
              refine HQU.out.mono ?_
              rintro e w10 ⟨rfl, hb10⟩
              have HM10 := Lib.hid (HM7.out.below hb10)
              have HR10 := Lib.hid (HR7.out.trans (hb10.mono HR7.out.size))
              clear hb10
              go_wp2_with fail
              exact ⟨⟨j + 1, h', by omega, by go_num, Lib.hid ⟨HM10.out, HAC.out.good, by have := HAC.out.len; omega, HR10.out⟩⟩, by simp [intOf]; omega⟩
            · have tc : (c != 0) = true := by simpa using hc
              have tc2 : (c == 0) = false := by simpa using hc
              obtain rfl : h' = h := HAC.out.no hc
              have m2 : (h'.main.toList != h'.main.toList) = false := by simp
              have m3 : ((h'.log.length : Int) != (h'.log.length : Int)) = false := by simp
              have m4 : (h'.quiet != h'.quiet) = false := by simp
              have m5 : ((h'.textOf q.client).toList != (h'.textOf q.client).toList) = false := by simp
              have m6 : (h'.seenOf q.client != h'.seenOf q.client) = false := by simp
              have HMA := Lib.hid (Main_any HM7.out)
              go_wp2_with fail
              refine HMA.out.mono ?_
              rintro e w9 ⟨rfl, rfl⟩
              go_wp2_with fail
              refine (Log_any HM7.out hll HAC.out.good.parts).mono ?_
              rintro e w9 ⟨vo9, vc9, rfl, -, hb9, -⟩
              have HM9 := Lib.hid (HM7.out.below hb9)
              have HOB9 := Lib.hid ((hb9.block T (Array.getElem?_eq_some_iff.1 HOB7.out).1).trans HOB7.out)
              have HR9 := Lib.hid (HR7.out.trans (hb9.mono HR7.out.size))
              clear hb9
              go_wp2_with fail
              refine (Quiet_any HM9.out HAC.out.good.n8).mono ?_
              rintro e w10 ⟨rfl, hb10⟩
              have HM10 := Lib.hid (HM9.out.below hb10)
              have HOB10 := Lib.hid ((hb10.block T (Array.getElem?_eq_some_iff.1 HOB9.out).1).trans HOB9.out)
              have HR10 := Lib.hid (HR9.out.trans (hb10.mono HR9.out.size))
              clear hb10 b0 b1 b2
              obtain ⟨b0, b1, b2⟩ := act_cells HOB10.out
              go_wp2_with fail
              refine (Seen_any HM10.out q.client).mono ?_
              rintro e w11 ⟨rfl, rfl⟩
              go_wp2_with fail
              exact ⟨⟨j + 1, h', by omega, by go_num, Lib.hid ⟨HM10.out, HAC.out.good, by omega, HR10.out⟩⟩, by simp [intOf]; omega⟩
          · have u1 : (q.kind == 1) = false := by simpa using hk1
            by_cases hk2 : q.kind = 2
            · have u2 : (q.kind == 2) = true := by simpa using hk2
              have HACT := Lib.hid (act_send HM5.out HGD.out hll q.client q.kind hk1)
              clear hk1 hk2
              go_wp2_with fail
              refine HACT.out.mono ?_
              rintro e w7 ⟨c, h', rfl, hm, ha, hb⟩
              have HM7 := Lib.hid hm
              have HAC := Lib.hid ha
              have HB7 := Lib.hid (hb.below HM5.out.low (Nat.le_of_lt (Nat.lt_of_le_of_lt HM5.out.br HM5.out.rlt)))
              have hob := (hb.block T (Nat.lt_of_lt_of_le HTL.out HBW.out.size) (HNO.out)).trans ((HBW.out.block T HTL.out).trans HOB.out)
              have HOB7 := Lib.hid hob
              have HR7 := Lib.hid (HRUN.out.trans (HB7.out.mono HBB.out))
              clear b0 b1 b2 hm ha hb HACT hob
              obtain ⟨b0, b1, b2⟩ := act_cells HOB7.out
              go_wp2_with fail
              refine (Text_any HM7.out q.client).mono ?_
              rintro e w8 ⟨⟨c8, rfl⟩, rfl⟩
              by_cases hc : c = 0
              · subst hc
                have HMA := Lib.hid (Main_any HM7.out)
                have HQU := Lib.hid (Quiet_any HM7.out HAC.out.good.n8)
                go_wp2_with fail
                exact ⟨⟨j + 1, h', by omega, by go_num, Lib.hid ⟨HM7.out, HAC.out.good, by have := HAC.out.len; omega, HR7.out⟩⟩, by simp [intOf]; omega⟩
              · have tc : (c != 0) = true := by simpa using hc
                have tc2 : (c == 0) = false := by simpa using hc
                obtain rfl : h' = h := HAC.out.no hc
                have m2 : (h'.main.toList != h'.main.toList) = false := by simp
                have m3 : ((h'.log.length : Int) != (h'.log.length : Int)) = false := by simp
                have m4 : (h'.quiet != h'.quiet) = false := by simp
                have m5 : ((h'.textOf q.client).toList != (h'.textOf q.client).toList) = false := by simp
                have m6 : (h'.seenOf q.client != h'.seenOf q.client) = false := by simp
                have HMA := Lib.hid (Main_any HM7.out)
                go_wp2_with fail
                refine HMA.out.mono ?_
                rintro e w9 ⟨rfl, rfl⟩
                go_wp2_with fail
                refine (Log_any HM7.out hll HAC.out.good.parts).mono ?_
                rintro e w9 ⟨vo9, vc9, rfl, -, hb9, -⟩
                have HM9 := Lib.hid (HM7.out.below hb9)
                have HOB9 := Lib.hid ((hb9.block T (Array.getElem?_eq_some_iff.1 HOB7.out).1).trans HOB7.out)
                have HR9 := Lib.hid (HR7.out.trans (hb9.mono HR7.out.size))
                clear hb9
                go_wp2_with fail
                refine (Quiet_any HM9.out HAC.out.good.n8).mono ?_
                rintro e w10 ⟨rfl, hb10⟩
                have HM10 := Lib.hid (HM9.out.below hb10)
                have HOB10 := Lib.hid ((hb10.block T (Array.getElem?_eq_some_iff.1 HOB9.out).1).trans HOB9.out)
                have HR10 := Lib.hid (HR9.out.trans (hb10.mono HR9.out.size))
                clear hb10 b0 b1 b2
                obtain ⟨b0, b1, b2⟩ := act_cells HOB10.out
                go_wp2_with fail
                refine (Seen_any HM10.out q.client).mono ?_
                rintro e w11 ⟨rfl, rfl⟩
                go_wp2_with fail
                exact ⟨⟨j + 1, h', by omega, by go_num, Lib.hid ⟨HM10.out, HAC.out.good, by omega, HR10.out⟩⟩, by simp [intOf]; omega⟩
            · have u2 : (q.kind == 2) = false := by simpa using hk2
              have HACT := Lib.hid (act_recv HM5.out HGD.out hll q.client q.kind hk1)
              clear hk1 hk2
              go_wp2_with fail
              refine HACT.out.mono ?_
              rintro e w7 ⟨c, h', rfl, hm, ha, hb⟩
              have HM7 := Lib.hid hm
              have HAC := Lib.hid ha
              have HB7 := Lib.hid (hb.below HM5.out.low (Nat.le_of_lt (Nat.lt_of_le_of_lt HM5.out.br HM5.out.rlt)))
              have hob := (hb.block T (Nat.lt_of_lt_of_le HTL.out HBW.out.size) (HNO.out)).trans ((HBW.out.block T HTL.out).trans HOB.out)
              have HOB7 := Lib.hid hob
              have HR7 := Lib.hid (HRUN.out.trans (HB7.out.mono HBB.out))
              clear b0 b1 b2 hm ha hb HACT hob
              obtain ⟨b0, b1, b2⟩ := act_cells HOB7.out
              go_wp2_with fail
              refine (Text_any HM7.out q.client).mono ?_
              rintro e w8 ⟨⟨c8, rfl⟩, rfl⟩
              by_cases hc : c = 0
              · subst hc
                have HMA := Lib.hid (Main_any HM7.out)
                have HQU := Lib.hid (Quiet_any HM7.out HAC.out.good.n8)
                go_wp2_with fail
                exact ⟨⟨j + 1, h', by omega, by go_num, Lib.hid ⟨HM7.out, HAC.out.good, by have := HAC.out.len; omega, HR7.out⟩⟩, by simp [intOf]; omega⟩
              · have tc : (c != 0) = true := by simpa using hc
                have tc2 : (c == 0) = false := by simpa using hc
                obtain rfl : h' = h := HAC.out.no hc
                have m2 : (h'.main.toList != h'.main.toList) = false := by simp
                have m3 : ((h'.log.length : Int) != (h'.log.length : Int)) = false := by simp
                have m4 : (h'.quiet != h'.quiet) = false := by simp
                have m5 : ((h'.textOf q.client).toList != (h'.textOf q.client).toList) = false := by simp
                have m6 : (h'.seenOf q.client != h'.seenOf q.client) = false := by simp
                have HMA := Lib.hid (Main_any HM7.out)
                go_wp2_with fail
                refine HMA.out.mono ?_
                rintro e w9 ⟨rfl, rfl⟩
                go_wp2_with fail
                refine (Log_any HM7.out hll HAC.out.good.parts).mono ?_
                rintro e w9 ⟨vo9, vc9, rfl, -, hb9, -⟩
                have HM9 := Lib.hid (HM7.out.below hb9)
                have HOB9 := Lib.hid ((hb9.block T (Array.getElem?_eq_some_iff.1 HOB7.out).1).trans HOB7.out)
                have HR9 := Lib.hid (HR7.out.trans (hb9.mono HR7.out.size))
                clear hb9
                go_wp2_with fail
                refine (Quiet_any HM9.out HAC.out.good.n8).mono ?_
                rintro e w10 ⟨rfl, hb10⟩
                have HM10 := Lib.hid (HM9.out.below hb10)
                have HOB10 := Lib.hid ((hb10.block T (Array.getElem?_eq_some_iff.1 HOB9.out).1).trans HOB9.out)
                have HR10 := Lib.hid (HR9.out.trans (hb10.mono HR9.out.size))
                clear hb10 b0 b1 b2
                obtain ⟨b0, b1, b2⟩ := act_cells HOB10.out
                go_wp2_with fail
                refine (Seen_any HM10.out q.client).mono ?_
                rintro e w11 ⟨rfl, rfl⟩
                go_wp2_with fail
                exact ⟨⟨j + 1, h', by omega, by go_num, Lib.hid ⟨HM10.out, HAC.out.good, by omega, HR10.out⟩⟩, by simp [intOf]; omega⟩
        · obtain rfl : j = M := by omega
          go_wp2_with fail
          try go_ret
          exact ⟨rfl, HR.out.2.2.2⟩
end Go.Proofs.Ytaibpnblnigkgaa
