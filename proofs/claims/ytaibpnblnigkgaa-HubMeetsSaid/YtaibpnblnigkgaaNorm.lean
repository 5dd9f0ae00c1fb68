/-
  The contracts of splice's norm, Norm, Sizes. Conditions: the parts lie where the argument says.
-/
import Derived.Test.YtaibpnblnigkgaaAdd
import Derived.Test.YtaibpnblnigkgaaDone
import Derived.Test.YtaibpnblnigkgaaSpliceChk
namespace Go.Proofs.Ytaibpnblnigkgaa
open Go.RowKit Gx

theorem init_bd (w : World) : Bd (w.alloc (.cells #[.slice none 0 0, .int .i64 0, .string ⟨#[]⟩] 86)) w.heap.size (fun k => k = w.heap.size) w.heap.size b0 (.slice none 0 0) := by
  refine ⟨?_, World.ownsRow_nil _ _ _ _, (by simp [Value.ownBlock]), rfl, (fun k hk => by simp [Value.ownBlock] at hk), (fun k hk => by subst hk; simp)⟩
  exact heap_alloc_new w _

set_option maxHeartbeats 2000000 in
theorem norm_any (ad : Option Addr) (cap : Nat) (l : List Part) (w : World) (h : PR w ad cap l) (hl : chk l = 0) :
    Calls Try.prog 40 #[.slice ad l.length cap] w fun e w' => MadePost w.heap.size (nf (ex l)) w e w' ∧ Below w.heap.size w w' := by
  have hok := chk_okP hl
  obtain ⟨hlen, hpe, hov, hmk⟩ := chk_zero.1 hl
  have hbd := init_bd w
  have hP := Lib.hid h
  have HOK := Lib.hid hok
  have HPE := Lib.hid hpe
  clear h hl hok hpe
  obtain ⟨n, hn⟩ : ∃ n, n = l.length := ⟨_, rfl⟩
  rw [← hn] at hlen ⊢
  have HN := Lib.hid hn
  clear hn
  obtain ⟨w0, hw0⟩ : ∃ w0, w0 = w.alloc (.cells #[.slice none 0 0, .int .i64 0, .string ⟨#[]⟩] 86) := ⟨_, rfl⟩
  have HB0 : Below w.heap.size w w0 := by rw [hw0]; exact (Below.refl _ w).alloc (Nat.le_refl _) _
  rw [← hw0] at hbd
  have HBD := Lib.hid hbd
  have HB1 := Lib.hid HB0
  have HW := Lib.hid hw0
  clear hbd HB0
  go_enter Try.func40, Try.ntmps40
  go_wp2
  rw [← HW.out]
  clear HW hw0
  go_loopw [8] (fun i wr => ∃ (j : Nat) (F : Nat → Prop) (v : Value), j ≤ n ∧ i = .int .i64 j ∧ Hid (Bd wr w.heap.size F w.heap.size (stU (ex (l.take j))) v) ∧ Hid (Below w.heap.size w wr)) (fun i _ => n - (intOf i).toNat)
  case atStart => exact ⟨0, _, _, Nat.zero_le _, rfl, HBD, HB1⟩
  case round =>
    obtain ⟨j, F, v, hj, rfl, hB, hb⟩ := hrel
    by_cases hlt : j < n
    · have hjl : j < l.length := by have := HN.out; omega
      obtain ⟨q, hq⟩ : ∃ q, l[j]? = some q := ⟨_, List.getElem?_eq_getElem hjl⟩
      obtain ⟨b, off, rfl, hbl, hcell⟩ := (hP.out.keep hb.out).addr (by omega)
      obtain ⟨c0, c1, c2⟩ := hcell j q hq
      have hqm := List.mem_of_getElem? hq
      have hqok := HOK.out q hqm
      have hqe := partErr_ok (HPE.out q hqm)
      have hta := take_bound l j
      have hsm := Lib.hid (small_of (ex (l.take j)) q (by omega) (by omega) (by omega))
      have hst := Lib.hid (stU_add (ex (l.take j)) q hqok)
      have het := Lib.hid (ex_take l j q hq)
      have HQ := Lib.hid hqok
      have hsz := hb.out.size
      have hkeep := hB.out.keep (chg_box wr q) (fun _ _ f => f)
      have HKEEP := Lib.hid hkeep
      have hbw := Lib.hid (hb.out.alloc hsz (.cells #[.int .i64 q.1, .int .i64 q.2.1, .string (bs q.2.2)] 54))
      have hi1 : (0 : Int) ≤ (j : Int) := by omega
      have hi2 : (j : Int) < (n : Int) := by omega
      clear hcell hq hjl hqm hqok hqe hta hkeep hB hb
      go_wp2_with fail
      refine (add_any _ w.heap.size F w.heap.size _ v q HKEEP.out (by simp; omega) HQ.out hsm.out).mono ?_
      rintro e w2 ⟨rfl, F2, v2, hb2, hF2, hc2⟩
      rw [hst.out, ← het.out] at hb2
      have HB2 := Lib.hid hb2
      have HL2 := Lib.hid (hbw.out.trans (hc2.below hbw.out.size (fun i hi => (HKEEP.out.low i hi).1)))
      clear hb2 hF2 hc2 HKEEP hst het
      go_wp2
      go_roundw
      case rel => exact ⟨j + 1, F2, v2, by omega, by go_num, HB2, HL2⟩
      case measure => simp [intOf]; omega
    · obtain rfl : j = n := by omega
      have hT : l.take j = l := by rw [HN.out, List.take_length]
      rw [hT] at hB
      have hsl := st_len (ex l)
      have hsz := hb.out.size
      go_wp2_with fail
      refine (done_any wr w.heap.size F w.heap.size _ v hB.out hsz (by omega) (by omega)).mono ?_
      rintro e w2 ⟨⟨vo, vc, rfl, hown⟩, hc2⟩
      have HO := Lib.hid hown
      have HL2 := Lib.hid (hb.out.trans (hc2.below hsz (fun i hi => (hB.out.low i hi).1)))
      clear hown hc2
      go_wp2
      go_ret
      exact ⟨⟨vo, vc, rfl, HO.out⟩, HL2.out⟩

theorem check_ok (ad : Option Addr) (cap : Nat) (l : List Part) (w : World) (h : PR w ad cap l) (hl : chk l = 0) :
    Calls Try.prog 21 #[.slice ad l.length cap] w fun e w' => e = .returned (.tuple #[.int .i64 (U.over (ex l)), .int .i64 (U.makes (ex l)), .int .i64 0]) ∧ Below w.heap.size w w' := by
  refine (check_any ad cap l w h).mono ?_
  rintro e w' ⟨rfl, hb⟩
  refine ⟨?_, hb⟩
  unfold ovOf mkOf
  rw [hl, if_pos rfl, if_pos rfl]
theorem check_no (ad : Option Addr) (cap : Nat) (l : List Part) (w : World) (h : PR w ad cap l) (hl : chk l ≠ 0) :
    Calls Try.prog 21 #[.slice ad l.length cap] w fun e w' => e = .returned (.tuple #[.int .i64 0, .int .i64 0, .int .i64 (chk l)]) ∧ Below w.heap.size w w' := by
  refine (check_any ad cap l w h).mono ?_
  rintro e w' ⟨rfl, hb⟩
  refine ⟨?_, hb⟩
  unfold ovOf mkOf
  rw [if_neg hl, if_neg hl]

theorem Norm_ok (ad : Option Addr) (cap : Nat) (l : List Part) (w : World) (h : PR w ad cap l) (hl : chk l = 0) :
    Calls Try.prog 26 #[.slice ad l.length cap] w fun e w' => ∃ vo vc, e = .returned (.tuple #[.slice vo (nf (ex l)).length vc, .int .i64 0]) ∧
      w'.ownsRow w.heap.size 54 3 (.slice vo (nf (ex l)).length vc) (nf (ex l)).length (partCells (nf (ex l))) ∧ Below w.heap.size w w' := by
  have HP := Lib.hid h
  have HL := Lib.hid hl
  clear h hl
  go_enter Try.func26, Try.ntmps26
  go_wp2_with fail
  refine (check_ok ad cap l w HP.out HL.out).mono ?_
  rintro e w2 ⟨rfl, hb2⟩
  have HB := Lib.hid hb2
  clear hb2
  go_wp2_with fail
  refine (norm_any ad cap l w2 (HP.out.keep HB.out) HL.out).mono ?_
  rintro e w3 ⟨⟨vo, vc, rfl, hown⟩, hb3⟩
  have HO := Lib.hid hown
  have HB3 := Lib.hid (HB.out.trans (hb3.mono HB.out.size))
  clear hown hb3
  go_wp2
  go_ret2
  exact ⟨vo, vc, rfl, own_weaken HO.out HB.out.size, HB3.out⟩
theorem Norm_no (ad : Option Addr) (cap : Nat) (l : List Part) (w : World) (h : PR w ad cap l) (hl : chk l ≠ 0) :
    Calls Try.prog 26 #[.slice ad l.length cap] w fun e w' => e = .returned (.tuple #[.slice none 0 0, .int .i64 (chk l)]) ∧ Below w.heap.size w w' := by
  have HP := Lib.hid h
  obtain ⟨c, hc⟩ : ∃ c, c = chk l := ⟨_, rfl⟩
  rw [← hc] at hl ⊢
  have HC := Lib.hid hc
  have HL := Lib.hid hl
  have hl2 : decide (c = 0) = false := decide_eq_false hl
  clear h hc
  go_enter Try.func26, Try.ntmps26
  go_wp2_with fail
  refine (check_no ad cap l w HP.out (by rw [← HC.out]; exact HL.out)).mono ?_
  rintro e w2 ⟨rfl, hb2⟩
  rw [← HC.out]
  have HB := Lib.hid hb2
  clear hb2
  go_wp2
  go_ret2
  exact ⟨rfl, HB.out⟩
end Go.Proofs.Ytaibpnblnigkgaa
