/-
  The walk of HubMeets. Conditions: the acts lie in memory.
-/
import Derived.Test.YtaibpnblnigkgaaHubMeetLaw
namespace Go.Proofs.Ytaibpnblnigkgaa
open Go.RowKit Gx
set_option maxRecDepth 100000

/-- a hub in the rounds -/
structure SI (B R C cap : Nat) (d : List UInt8) (n r i m : Nat) (w : World) (h : Hb) (wr : World) : Prop where
  hm : HM B R C cap h wr
  act : ActI d n h
  inv : RInv r i h
  len : h.log.length ≤ m
  bel : Below B w wr
def SettledP (B R C cap : Nat) (d : List UInt8) (n : Nat) (w : World) (e : Ending) (w' : World) : Prop :=
  ∃ b h', e = .returned (.bool b) ∧ HM B R C cap h' w' ∧ ActI d n h' ∧ h'.log.length ≤ 200 ∧ Below B w w' ∧ (b = true → ∀ (k : Nat) (x : Cl), h'.cls[k]? = some x → x.done h'.log.length)
set_option maxHeartbeats 8000000 in
theorem settled_any {B R C cap : Nat} {h : Hb} {w : World} (d : List UInt8) (n : Nat) (h8 : n ≤ 8) (m : HM B R C cap h w) (a : ActI d n h) (hl : h.log.length ≤ 80) :
    Calls Try.prog 14 #[.pointer (some ⟨R, 0, none⟩), .int .i64 n] w (SettledP B R C cap d n w) := by
  have HS0 : Hid (SI B R C cap d n 0 0 80 w h w) := Lib.hid ⟨m, a, RInv.zero h, hl, Below.refl _ _⟩
  clear m a hl
  go_enter Try.func14, Try.ntmps14
  go_wp2_with fail
  go_loopw [8] (fun v8 wr => ∃ (r : Nat) (h : Hb), r ≤ 3 ∧ v8 = .int .i64 r ∧ Hid (SI B R C cap d n r 0 (80 + 8 * r) w h wr)) (fun v8 _ => 3 - (intOf v8).toNat)
  case atStart => exact ⟨0, h, by omega, rfl, HS0⟩
  case round =>
    obtain ⟨r, h, hr, rfl, HS⟩ := hrel
    clear HS0
    by_cases hlt : r < 3
    · have i1 : (r : Int) < 3 := by omega
      have t1 : decide ((r : Int) < 3) = true := decide_eq_true i1
      go_wp2_with fail
      obtain ⟨wo, rfl⟩ : ∃ wo : World, wo = wr := ⟨_, rfl⟩
      go_loopw [11] (fun v11 wr => ∃ (i : Nat) (h : Hb), i ≤ n ∧ v11 = .int .i64 i ∧ Hid (SI B R C cap d n r i (80 + 8 * r + i) w h wr)) (fun v11 _ => n - (intOf v11).toNat)
      case atStart => exact ⟨0, h, Nat.zero_le _, rfl, HS⟩
      case round =>
        obtain ⟨i, h2, hi, rfl, HS2⟩ := hrel
        clear HS
        by_cases hli : i < n
        · obtain ⟨x0, hx0⟩ : ∃ x, h2.cls[i]? = some x := ⟨_, List.getElem?_eq_getElem (by rw [HS2.out.act.2.2]; exact hli)⟩
          have HX0 := Lib.hid hx0
          clear hx0
          go_wp2_with fail
          obtain ⟨wo2, rfl⟩ : ∃ wo2 : World, wo2 = wr := ⟨_, rfl⟩
          go_loopg [] (300) (fun g wr => ∃ (h : Hb) (x : Cl), Hid (SI B R C cap d n r i (80 + 8 * r + i) w h wr) ∧ Hid (h.cls[i]? = some x) ∧ h.log.length ≤ x.seen + g)
          case atStart => exact ⟨h2, x0, HS2, HX0, by have := HS2.out.len; omega⟩
          case round =>
            obtain ⟨h3, x, HS3, HX, hgk⟩ := hrel
            clear HS2 HX0
            have hll : h3.log.length ≤ 100000 := by have := HS3.out.len; omega
            have HRE := Lib.hid (Recv_any HS3.out.hm HS3.out.act.1 hll (i : Int))
            unfold RecvP at HRE
            go_wp2_with fail
            refine HRE.out.mono ?_
            rintro e w5 ⟨c, h4, rfl, hm4, hs4, hb4⟩
            have hB : B ≤ wr.heap.size := Nat.le_of_lt (Nat.lt_of_le_of_lt HS3.out.hm.br HS3.out.hm.rlt)
            have hbel : Below B w w5 := HS3.out.bel.trans (hb4.below HS3.out.hm.low hB)
            have ha4 := HS3.out.act.recv hs4
            rcases recv_sum HS3.out.act.1 x HX.out hs4 with ⟨hc, rfl, h8c⟩ | ⟨hc, x', rfl, q1, q2, q3⟩
            · by_cases hc8 : c = 8
              · subst hc8
                have HSN := Lib.hid (h8c rfl)
                have HS4 : Hid (SI B R C cap d n r i (80 + 8 * r + i) w h4 w5) := Lib.hid ⟨hm4, ha4, HS3.out.inv, HS3.out.len, hbel⟩
                have HSE := Lib.hid (Send_any hm4 ha4.1 hll (i : Int))
                unfold SendP at HSE
                clear hm4 hs4 hb4 hbel ha4 hc h8c HRE HS3
                go_wp2_with fail
                refine HSE.out.mono ?_
                rintro e w6 ⟨c6, h6, rfl, hm6, hs6, hb6⟩
                have hB6 : B ≤ w5.heap.size := Nat.le_of_lt (Nat.lt_of_le_of_lt HS4.out.hm.br HS4.out.hm.rlt)
                have hbel6 : Below B w w6 := HS4.out.bel.trans (hb6.below HS4.out.hm.low hB6)
                have ha6 := HS4.out.act.send hs6
                have hl6 := (HS4.out.act.1.send hs6).2
                by_cases hok : c6 = 0 ∨ c6 = 8
                · have HS6 : Hid (SI B R C cap d n r (i + 1) (80 + 8 * r + (i + 1)) w h6 w6) := Lib.hid ⟨hm6, ha6, HS4.out.inv.send HS4.out.act HX.out HSN.out hs6 hok, by have := HS4.out.len; omega, hbel6⟩
                  clear hm6 hs6 hb6 hbel6 ha6 hl6 hB6
                  rcases hok with rfl | rfl
                  · go_wp2_with fail
                    exact ⟨⟨i + 1, h6, by omega, by go_num, HS6⟩, by simp [intOf]; omega⟩
                  · go_wp2_with fail
                    exact ⟨⟨i + 1, h6, by omega, by go_num, HS6⟩, by simp [intOf]; omega⟩
                · have u1 : (c6 != 0) = true := by
                    have : ¬ c6 = 0 := fun h => hok (.inl h)
                    simpa using this
                  have u2 : (c6 != 8) = true := by
                    have : ¬ c6 = 8 := fun h => hok (.inr h)
                    simpa using this
                  have HF : Hid (SettledP B R C cap d n w (.returned (.bool false)) w6) := Lib.hid ⟨false, h6, rfl, hm6, ha6, by have := HS4.out.len; omega, hbel6, fun h => absurd h (by decide)⟩
                  clear hm6 hs6 hb6 hbel6 ha6 hl6 hB6 hok
                  go_wp2_with fail
                  try go_ret
                  exact HF.out
              · have u1 : (c == 8) = false := by simpa using hc8
                have u2 : (c != 0) = true := by simpa using hc
                have HF : Hid (SettledP B R C cap d n w (.returned (.bool false)) w5) := Lib.hid ⟨false, h4, rfl, hm4, ha4, by have := HS3.out.len; omega, hbel, fun h => absurd h (by decide)⟩
                clear hm4 hs4 hb4 hbel ha4 hc h8c hc8
                go_wp2_with fail
                try go_ret
                exact HF.out
            · subst hc
              have HS4 : Hid (SI B R C cap d n r i (80 + 8 * r + i) w { h3 with cls := h3.cls.set i x' } w5) := Lib.hid ⟨hm4, ha4, HS3.out.inv.recv HX.out q2 q3, HS3.out.len, hbel⟩
              have HX4 : Hid (({ h3 with cls := h3.cls.set i x' } : Hb).cls[i]? = some x') := Lib.hid (get_set HX.out)
              clear hm4 hs4 hb4 hbel ha4
              go_wp2_with fail
              go_roundg (gk - 1)
              case measure => omega
              case rel => exact ⟨_, x', HS4, HX4, by show h3.log.length ≤ x'.seen + (gk - 1); omega⟩
        · obtain rfl : i = n := by omega
          have HS3 : Hid (SI B R C cap d i (r + 1) 0 (80 + 8 * (r + 1)) w h2 wr) := Lib.hid ⟨HS2.out.hm, HS2.out.act, HS2.out.inv.next HS2.out.act.2.2, by have := HS2.out.len; omega, HS2.out.bel⟩
          go_wp2_with fail
          exact ⟨⟨r + 1, h2, by omega, by go_num, HS3⟩, by simp [intOf]; omega⟩
    · obtain rfl : r = 3 := by omega
      go_wp2_with fail
      try go_ret
      exact ⟨true, h, rfl, HS.out.hm, HS.out.act, by have := HS.out.len; omega, HS.out.bel, fun _ => HS.out.inv.2.2 (by decide)⟩
end Go.Proofs.Ytaibpnblnigkgaa
