/-
  The walk of HubMeets itself. Conditions: the acts lie in memory.
-/
import Derived.Test.YtaibpnblnigkgaaHubMeets
namespace Go.Proofs.Ytaibpnblnigkgaa
open Go.RowKit Gx
set_option maxRecDepth 100000

set_option maxHeartbeats 16000000 in
theorem hubMeets_walk (text : ByteArray) (n : Int) (wn : (Lit.int .i64 n).wf = true) (ad : Option Addr) (cap : Nat) (L : List Ac) (w : World) (hL : AW w ad cap L) : Calls Try.prog 4 #[.string text, .int .i64 n, .slice ad L.length cap] w (TruePost w) := by
  have HH := Lib.hid (hubs_any w)
  by_cases hbad : n < 1 ∨ 8 < n ∨ 20000 < text.size
  · have HAN := Lib.hid (fun wz => acted_no2 text n ad L.length cap wz hbad)
    have hb3 : n < 1 ∨ (¬ n < 1 ∧ 8 < n) ∨ (¬ n < 1 ∧ ¬ 8 < n ∧ 20000 < text.size) := by omega
    clear hbad hL
    rcases hb3 with h1 | ⟨h1, h2⟩ | ⟨h1, h2, h3⟩
    · have t1 : decide (n < 1) = true := decide_eq_true h1
      clear h1
      go_enter Try.func4, Try.ntmps4
      go_wp2_with fail
      refine HH.out.mono ?_
      rintro e w1 ⟨rfl, hb1⟩
      have HB1 := Lib.hid hb1
      clear hb1
      go_wp2_with fail
      refine (HAN.out w1).mono ?_
      rintro e w2 ⟨rfl, rfl⟩
      go_wp2_with fail
      try go_ret
      exact ⟨rfl, HB1.out⟩
    · have t1 : decide (n < 1) = false := decide_eq_false h1
      have t2 : decide (8 < n) = true := decide_eq_true h2
      clear h1 h2
      go_enter Try.func4, Try.ntmps4
      go_wp2_with fail
      refine HH.out.mono ?_
      rintro e w1 ⟨rfl, hb1⟩
      have HB1 := Lib.hid hb1
      clear hb1
      go_wp2_with fail
      refine (HAN.out w1).mono ?_
      rintro e w2 ⟨rfl, rfl⟩
      go_wp2_with fail
      try go_ret
      exact ⟨rfl, HB1.out⟩
    · have t1 : decide (n < 1) = false := decide_eq_false h1
      have t2 : decide (8 < n) = false := decide_eq_false h2
      have t3 : decide ((20000 : Int) < (text.size : Int)) = true := decide_eq_true (by omega)
      have t4 : decide (20000 < text.size) = true := decide_eq_true h3
      clear h1 h2 h3
      go_enter Try.func4, Try.ntmps4
      go_wp2_with fail
      refine HH.out.mono ?_
      rintro e w1 ⟨rfl, hb1⟩
      have HB1 := Lib.hid hb1
      clear hb1
      go_wp2_with fail
      refine (HAN.out w1).mono ?_
      rintro e w2 ⟨rfl, rfl⟩
      go_wp2_with fail
      try go_ret
      exact ⟨rfl, HB1.out⟩
  · obtain ⟨k, rfl⟩ : ∃ k : Nat, n = (k : Int) := ⟨n.toNat, by omega⟩
    have g1 : 1 ≤ k := by omega
    have g8 : k ≤ 8 := by omega
    have gl : text.size ≤ 20000 := by omega
    clear hbad wn
    by_cases h80 : 80 < L.length
    · have HAN := Lib.hid (fun wz => acted_many text k ad L.length cap wz g1 g8 gl h80)
      obtain ⟨M, hM⟩ : ∃ M, L.length = M := ⟨_, rfl⟩
      rw [hM] at HAN h80 ⊢
      have t1 : decide ((k : Int) < 1) = false := decide_eq_false (by omega)
      have t2 : decide (8 < (k : Int)) = false := decide_eq_false (by omega)
      have t3 : decide ((20000 : Int) < (text.size : Int)) = false := decide_eq_false (by omega)
      have t4 : decide (20000 < text.size) = false := decide_eq_false (by omega)
      have t5 : decide ((80 : Int) < (M : Int)) = true := decide_eq_true (by omega)
      have t6 : decide (80 < M) = true := decide_eq_true h80
      clear hL hM
      go_enter Try.func4, Try.ntmps4
      go_wp2_with fail
      refine HH.out.mono ?_
      rintro e w1 ⟨rfl, hb1⟩
      have HB1 := Lib.hid hb1
      clear hb1
      go_wp2_with fail
      refine (HAN.out w1).mono ?_
      rintro e w2 ⟨rfl, hb⟩
      have HB2 := Lib.hid (HB1.out.trans (hb.mono HB1.out.size))
      clear hb
      go_wp2_with fail
      try go_ret
      exact ⟨rfl, HB2.out⟩
    · have HAN := Lib.hid (fun wz (hz : Below w.heap.size w wz) => acted_any text k ad cap L wz g1 g8 gl (hL.keep hz) (by omega))
      obtain ⟨d, hdd⟩ : ∃ d, text.data.toList = d := ⟨_, rfl⟩
      rw [hdd] at HAN
      clear hL hdd g1 gl h80
      go_enter Try.func4, Try.ntmps4
      go_wp2_with fail
      refine HH.out.mono ?_
      rintro e w1 ⟨rfl, hb1⟩
      have HB1 := Lib.hid hb1
      clear hb1
      go_wp2_with fail
      refine (HAN.out w1 HB1.out).mono ?_
      rintro e w2 ⟨R, C, cc, h, rfl, hm, ha, hl80, hb⟩
      have HST := Lib.hid (settled_any d k g8 hm ha hl80)
      unfold SettledP at HST
      have HB2 := Lib.hid (HB1.out.trans (hb.mono HB1.out.size))
      have HBB : Hid (w.heap.size ≤ w1.heap.size) := Lib.hid HB1.out.size
      clear hm ha hl80 hb HAN HH
      go_wp2_with fail
      refine HST.out.mono ?_
      rintro e w3 ⟨b, h3, rfl, hm3, ha3, hl3, hb3, hdn⟩
      have HM3 := Lib.hid hm3
      have HA3 := Lib.hid ha3
      have HB3 := Lib.hid (HB2.out.trans (hb3.mono HBB.out))
      have HDN := Lib.hid hdn
      clear hm3 ha3 hb3 hdn HST
      cases b with
      | false =>
        go_wp2_with fail
        try go_ret
        exact ⟨rfl, HB3.out⟩
      | true =>
        have HD := Lib.hid (HDN.out rfl)
        have HQ := Lib.hid (Quiet_any HM3.out HA3.out.1.n8)
        rw [quiet_done HD.out] at HQ
        go_wp2_with fail
        refine HQ.out.mono ?_
        rintro e w4 ⟨rfl, hb4⟩
        have HM4 := Lib.hid (HM3.out.below hb4)
        have HB4 := Lib.hid (HB3.out.trans (hb4.mono HB3.out.size))
        clear hb4 HQ
        go_wp2_with fail
        go_loopw [43] (fun v43 wr => ∃ i : Nat, i ≤ k ∧ v43 = .int .i64 i ∧ Below w4.heap.size w4 wr) (fun v43 _ => k - (intOf v43).toNat)
        case atStart => exact ⟨0, Nat.zero_le _, rfl, Below.refl _ _⟩
        case round =>
          obtain ⟨i, hi, rfl, hb⟩ := hrel
          by_cases hlt : i < k
          · obtain ⟨x, hx⟩ : ∃ x, h3.cls[i]? = some x := ⟨_, List.getElem?_eq_getElem (by rw [HA3.out.2.2]; exact hlt)⟩
            have hmx := HM4.out.below hb
            have hdx := HD.out i x hx
            have htx := text_done HA3.out.2.1 hx hdx
            have HTE := Lib.hid (Text_yes hmx i x hx)
            have HMA := Lib.hid (Main_any hmx)
            have HSE := Lib.hid (Seen_yes hmx i x hx)
            have HLG := Lib.hid (Log_any hmx (by omega) HA3.out.1.parts)
            unfold LogP at HLG
            rw [hdx.1] at HSE
            rw [htx] at HTE
            have HBX := Lib.hid hb
            obtain ⟨N, hN⟩ : ∃ N, h3.log.length = N := ⟨_, rfl⟩
            rw [hN] at HSE HLG
            have m1 : (h3.main.toList != h3.main.toList) = false := by simp
            have m2 : ((N : Int) != (N : Int)) = false := by simp
            clear hmx hdx htx hx hb hN
            go_wp2_with fail
            refine HTE.out.mono ?_
            rintro e w5 ⟨rfl, rfl⟩
            go_wp2_with fail
            refine HMA.out.mono ?_
            rintro e w5 ⟨rfl, rfl⟩
            go_wp2_with fail
            refine HSE.out.mono ?_
            rintro e w5 ⟨rfl, rfl⟩
            go_wp2_with fail
            refine HLG.out.mono ?_
            rintro e w5 ⟨vo, vc, rfl, -, hb5, -⟩
            have HB5 := Lib.hid (HBX.out.trans (hb5.mono HBX.out.size))
            clear hb5
            go_wp2_with fail
            exact ⟨⟨i + 1, by omega, by go_num, HB5.out⟩, by simp [intOf]; omega⟩
          · obtain rfl : i = k := by omega
            go_wp2_with fail
            try go_ret
            exact ⟨rfl, HB4.out.trans (hb.mono HB4.out.size)⟩
end Go.Proofs.Ytaibpnblnigkgaa
