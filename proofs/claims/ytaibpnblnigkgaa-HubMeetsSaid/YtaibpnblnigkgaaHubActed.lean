/-
  The contract of acted: a hub at which acts were done. Conditions: the acts lie in memory.
-/
import Derived.Test.YtaibpnblnigkgaaHubLaw
import Derived.Test.YtaibpnblnigkgaaHubRefused
namespace Go.Proofs.Ytaibpnblnigkgaa
open Go.RowKit Gx
set_option maxRecDepth 100000

/-- a hub that came so far from a text, of so many clients -/
def ActI (d : List UInt8) (n : Nat) (h : Hb) : Prop := Good h ∧ HI d h ∧ h.cls.length = n
theorem type_cls {h h' : Hb} {n c : Int} {l : List Part} (s : TypeStep h n l c h') : h'.cls.length = h.cls.length := by
  by_cases hc : c = 0
  · by_cases hn : h.In n
    · obtain ⟨k, x, hk, hx⟩ := hn.get
      obtain ⟨ad, cap, rfl⟩ := s.yes k x hk hx hc
      simp
    · exact absurd hc (s.out hn)
  · rw [s.no hc]
theorem send_cls {h h' : Hb} {n c : Int} (s : SendStep h n c h') : h'.cls.length = h.cls.length := by
  by_cases hc : c = 0
  · by_cases hn : h.In n
    · obtain ⟨k, x, hk, hx⟩ := hn.get
      cases hs : x.sent.is with
      | true => have := s.sent k x hk hx hs; omega
      | false =>
        cases hh : x.held.is with
        | false => have := s.nil k x hk hx hs hh; omega
        | true =>
          obtain ⟨hiff, hyes⟩ := s.go k x hk hx hs hh
          obtain ⟨e, lv, h1, h2, rfl⟩ := hyes hc
          simp
    · exact absurd hc (s.out hn)
  · rw [s.no hc]
theorem recv_cls {h h' : Hb} {n c : Int} (g : Good h) (s : RecvStep h n c h') : h'.cls.length = h.cls.length := by
  by_cases hc : c = 0
  · by_cases hn : h.In n
    · obtain ⟨k, x, hk, hx⟩ := hn.get
      have hx2 := g.cl x (List.mem_of_getElem? hx)
      by_cases hs : x.seen = h.log.length
      · have := s.nil k x hk hx hs
        omega
      · obtain ⟨e, he⟩ : ∃ e, h.log[x.seen]? = some e := ⟨_, List.getElem?_eq_getElem (by omega)⟩
        by_cases hw : e.who = n
        · obtain ⟨-, rfl⟩ := s.own k x e hk hx he hw
          simp
        · obtain ⟨hiff, hyes⟩ := s.other k x e hk hx he hw
          obtain ⟨sent, held, h1, h2, h3, h4, rfl⟩ := hyes hc
          simp
    · exact absurd hc (s.out hn)
  · rw [s.no hc]
theorem ActI.type {d : List UInt8} {m : Nat} {h h' : Hb} {n c : Int} {l : List Part} (a : ActI d m h) (s : TypeStep h n l c h') : ActI d m h' := ⟨a.1.type s, a.2.1.type s, (type_cls s).trans a.2.2⟩
theorem ActI.send {d : List UInt8} {m : Nat} {h h' : Hb} {n c : Int} (a : ActI d m h) (s : SendStep h n c h') : ActI d m h' := ⟨(a.1.send s).1, a.2.1.send a.1 s, (send_cls s).trans a.2.2⟩
theorem ActI.recv {d : List UInt8} {m : Nat} {h h' : Hb} {n c : Int} (a : ActI d m h) (s : RecvStep h n c h') : ActI d m h' := ⟨a.1.recv s, a.2.1.recv a.1 s, (recv_cls a.1 s).trans a.2.2⟩
/-- an act, whatever it answers -/
def AnyP (B R C cap : Nat) (d : List UInt8) (m : Nat) (h : Hb) (w : World) (e : Ending) (w' : World) : Prop :=
  ∃ (c : Int) (h' : Hb), e = .returned (.int .i64 c) ∧ HM B R C cap h' w' ∧ ((ActI d m h → ActI d m h') ∧ h'.log.length ≤ h.log.length + 1) ∧ Kp R C h.lv w w'
theorem acted_no2 (text : ByteArray) (n : Int) (ad : Option Addr) (m cap : Nat) (w : World) (hn : n < 1 ∨ 8 < n ∨ 20000 < text.size) : Calls Try.prog 7 #[.string text, .int .i64 n, .slice ad m cap] w fun e w' => e = .returned (.pointer none) ∧ w' = w := by
  by_cases h1 : n < 1 ∨ 8 < n
  · have HN := Lib.hid (New_no text n w h1)
    clear hn h1
    go_enter Try.func7, Try.ntmps7
    go_wp2_with fail
    refine HN.out.mono ?_
    rintro e w1 ⟨rfl, rfl⟩
    go_wp2_with fail
    try go_ret
    exact ⟨rfl, rfl⟩
  · obtain ⟨k, rfl⟩ : ∃ k : Nat, n = (k : Int) := ⟨n.toNat, by omega⟩
    have HN := Lib.hid (New_large text k w (by omega) (by omega) (by omega))
    clear hn h1
    go_enter Try.func7, Try.ntmps7
    go_wp2_with fail
    refine HN.out.mono ?_
    rintro e w1 ⟨rfl, rfl⟩
    go_wp2_with fail
    try go_ret
    exact ⟨rfl, rfl⟩
theorem acted_many (text : ByteArray) (n : Nat) (ad : Option Addr) (m cap : Nat) (w : World) (h1 : 1 ≤ n) (h8 : n ≤ 8) (hl : text.size ≤ 20000) (hm : 80 < m) : Calls Try.prog 7 #[.string text, .int .i64 n, .slice ad m cap] w fun e w' => e = .returned (.pointer none) ∧ Below w.heap.size w w' := by
  have HN := Lib.hid (New_ok text n w h1 h8 hl)
  unfold NewP at HN
  have t1 : decide ((80 : Int) < (m : Int)) = true := decide_eq_true (by omega)
  have t2 : decide (80 < m) = true := decide_eq_true hm
  clear h1 h8 hl hm
  go_enter Try.func7, Try.ntmps7
  go_wp2_with fail
  refine HN.out.mono ?_
  rintro e w1 ⟨R, C, cap, rfl, hm, hb⟩
  have HB := Lib.hid hb
  clear hm hb HN
  go_wp2_with fail
  try go_ret
  exact ⟨rfl, HB.out⟩
set_option maxHeartbeats 8000000 in
theorem acted_any (text : ByteArray) (n : Nat) (ad : Option Addr) (cap : Nat) (L : List Ac) (w : World) (h1 : 1 ≤ n) (h8 : n ≤ 8) (hl : text.size ≤ 20000) (hL : AW w ad cap L) (h80 : L.length ≤ 80) :
    Calls Try.prog 7 #[.string text, .int .i64 n, .slice ad L.length cap] w fun e w' =>
      ∃ R C cc h, e = .returned (.pointer (some ⟨R, 0, none⟩)) ∧ HM w.heap.size R C cc h w' ∧ ActI text.data.toList n h ∧ h.log.length ≤ 80 ∧ Below w.heap.size w w' := by
  have HN := Lib.hid (New_ok text n w h1 h8 hl)
  unfold NewP at HN
  have HAW := Lib.hid hL
  have HG0 : Hid (ActI text.data.toList n (Hb.new text n)) := Lib.hid ⟨Good.new text n h8, HI.new text n, by simp [Hb.new]⟩
  have hcap := hL.ncap
  obtain ⟨M, hM⟩ : ∃ M, L.length = M := ⟨_, rfl⟩
  have HLM := Lib.hid hM
  rw [hM] at hcap h80 ⊢
  have t1 : decide ((80 : Int) < (M : Int)) = false := decide_eq_false (by omega)
  have t2 : decide (80 < M) = false := decide_eq_false (by omega)
  clear h1 h8 hl hL hM
  go_enter Try.func7, Try.ntmps7
  go_wp2_with fail
  refine HN.out.mono ?_
  rintro e w1 ⟨R, C, cc, rfl, hm, hb⟩
  have HM1 := Lib.hid hm
  have HB1 := Lib.hid hb
  clear hm hb HN t1 t2
  go_wp2_with fail
  go_loopw [26] (fun v26 wr => ∃ (j : Nat) (h : Hb), j ≤ M ∧ v26 = .int .i64 j ∧ Hid (HM w.heap.size R C cc h wr ∧ ActI text.data.toList n h ∧ h.log.length ≤ j ∧ Below w.heap.size w wr)) (fun v26 _ => M - (intOf v26).toNat)
  case atStart => exact ⟨0, _, Nat.zero_le _, rfl, Lib.hid ⟨HM1.out, HG0.out, Nat.le_refl _, HB1.out⟩⟩
  case round =>
    obtain ⟨j, h, hj, rfl, HR⟩ := hrel
    by_cases hlt : j < M
    · obtain ⟨q, hq⟩ : ∃ q, L[j]? = some q := ⟨_, List.getElem?_eq_getElem (by rw [HLM.out]; exact hlt)⟩
      obtain ⟨hm, hg, hlj, hb⟩ := HR.out
      obtain ⟨b, off, had, hbl, c0, c1, c2, hpr⟩ := (HAW.out.keep hb).at_ j q hq
      subst had
      have hll : h.log.length ≤ 100000 := by omega
      have ha := (Below.refl wr.heap.size wr).alloc (Nat.le_refl _) (.cells #[.int .i64 q.kind, .int .i64 q.client, .slice q.ad q.l.length q.cap] 41)
      have HMa := Lib.hid (hm.below ha)
      have HI0 := Lib.hid hg
      have HPR := Lib.hid (hpr.keep ha)
      have HOB := Lib.hid (heap_alloc_new wr (.cells #[.int .i64 q.kind, .int .i64 q.client, .slice q.ad q.l.length q.cap] 41))
      have HRa := Lib.hid (hb.trans (ha.mono hb.size))
      obtain ⟨T, hT⟩ : ∃ T, wr.heap.size = T := ⟨_, rfl⟩
      obtain ⟨QL, hQL⟩ : ∃ QL, q.l.length = QL := ⟨_, rfl⟩
      rw [hQL] at c2 HMa HPR HOB HRa
      have HQL := Lib.hid hQL
      have i1 : (0 : Int) ≤ (j : Int) := by omega
      have i2 : (j : Int) < (M : Int) := by omega
      clear hq hm hg hb hbl hpr ha HR hQL
      go_upto_region 7 with fail
      try rw [hT]
      try rw [HQL.out]
      rw [hT] at HOB
      generalize wr.alloc (.cells #[.int .i64 q.kind, .int .i64 q.client, .slice q.ad QL q.cap] 41) = wa at HMa HPR HOB HRa ⊢
      clear c0 c1 c2 hT
      obtain ⟨b0, b1, b2⟩ := act_cells HOB.out
      by_cases hk1 : q.kind = 1
      · have HACT : Hid (Calls Try.prog 16 #[.pointer (some ⟨R, 0, none⟩), .int .i64 q.client, .slice q.ad QL q.cap] wa (AnyP w.heap.size R C cc text.data.toList n h wa)) := Lib.hid (by
          rw [← HQL.out]
          refine (Type_any HMa.out q.client q.ad q.cap q.l HPR.out).mono ?_
          rintro e w' ⟨c, h', rfl, hm, hs, hb⟩
          exact ⟨c, h', rfl, hm, ⟨fun a => a.type hs, by rw [(type_log hs).1]; exact Nat.le_succ _⟩, hb⟩)
        rw [hk1] at b0
        clear hk1
        go_wp2_with fail
        refine HACT.out.mono ?_
        rintro e w7 ⟨c, h', rfl, hm, ha, hb⟩
        have HREL : Hid (HM w.heap.size R C cc h' w7 ∧ ActI text.data.toList n h' ∧ h'.log.length ≤ j + 1 ∧ Below w.heap.size w w7) := Lib.hid ⟨hm, ha.1 HI0.out, by have := ha.2; omega, HRa.out.trans ((hb.below HMa.out.low (Nat.le_of_lt (Nat.lt_of_le_of_lt HMa.out.br HMa.out.rlt))).mono (Nat.le_refl _))⟩
        clear hm ha hb HACT
        go_wp2_with fail
        exact ⟨⟨j + 1, h', by omega, by go_num, HREL⟩, by simp [intOf]; omega⟩
      · have u1 : (q.kind == 1) = false := by simpa using hk1
        by_cases hk2 : q.kind = 2
        · have u2 : (q.kind == 2) = true := by simpa using hk2
          have HACT : Hid (Calls Try.prog 17 #[.pointer (some ⟨R, 0, none⟩), .int .i64 q.client] wa (AnyP w.heap.size R C cc text.data.toList n h wa)) := Lib.hid (by
            refine (Send_any HMa.out HI0.out.1 hll q.client).mono ?_
            rintro e w' ⟨c, h', rfl, hm, hs, hb⟩
            exact ⟨c, h', rfl, hm, ⟨fun a => a.send hs, (HI0.out.1.send hs).2⟩, hb⟩)
          clear hk1 hk2
          go_wp2_with fail
          refine HACT.out.mono ?_
          rintro e w7 ⟨c, h', rfl, hm, ha, hb⟩
          have HREL : Hid (HM w.heap.size R C cc h' w7 ∧ ActI text.data.toList n h' ∧ h'.log.length ≤ j + 1 ∧ Below w.heap.size w w7) := Lib.hid ⟨hm, ha.1 HI0.out, by have := ha.2; omega, HRa.out.trans ((hb.below HMa.out.low (Nat.le_of_lt (Nat.lt_of_le_of_lt HMa.out.br HMa.out.rlt))).mono (Nat.le_refl _))⟩
          clear hm ha hb HACT
          go_wp2_with fail
          exact ⟨⟨j + 1, h', by omega, by go_num, HREL⟩, by simp [intOf]; omega⟩
        · have u2 : (q.kind == 2) = false := by simpa using hk2
          have HACT : Hid (Calls Try.prog 18 #[.pointer (some ⟨R, 0, none⟩), .int .i64 q.client] wa (AnyP w.heap.size R C cc text.data.toList n h wa)) := Lib.hid (by
            refine (Recv_any HMa.out HI0.out.1 hll q.client).mono ?_
            rintro e w' ⟨c, h', rfl, hm, hs, hb⟩
            exact ⟨c, h', rfl, hm, ⟨fun a => a.recv hs, by rw [recv_log HI0.out.1 hs]; exact Nat.le_succ _⟩, hb⟩)
          clear hk1 hk2
          go_wp2_with fail
          refine HACT.out.mono ?_
          rintro e w7 ⟨c, h', rfl, hm, ha, hb⟩
          have HREL : Hid (HM w.heap.size R C cc h' w7 ∧ ActI text.data.toList n h' ∧ h'.log.length ≤ j + 1 ∧ Below w.heap.size w w7) := Lib.hid ⟨hm, ha.1 HI0.out, by have := ha.2; omega, HRa.out.trans ((hb.below HMa.out.low (Nat.le_of_lt (Nat.lt_of_le_of_lt HMa.out.br HMa.out.rlt))).mono (Nat.le_refl _))⟩
          clear hm ha hb HACT
          go_wp2_with fail
          exact ⟨⟨j + 1, h', by omega, by go_num, HREL⟩, by simp [intOf]; omega⟩
    · obtain rfl : j = M := by omega
      go_wp2_with fail
      try go_ret
      exact ⟨R, C, cc, h, rfl, HR.out.1, HR.out.2.1, by have := HR.out.2.2.1; omega, HR.out.2.2.2⟩
end Go.Proofs.Ytaibpnblnigkgaa
