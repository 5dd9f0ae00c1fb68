/-
  The statement SpliceNorm's walk: what is normal is so, and does the same. Conditions: the parts lie where the argument says.
-/
import Derived.Test.YtacmgnidnonjhaaSpEq
namespace Go.Proofs.Ytacmgnidnonjhaa
open Go.RowKit Gx

/-- the normal change is as good, and does the same -/
theorem apErr_nf {s : List UInt8} {l : List Part} (h : chk l = 0) : apErr s (nf (ex l)) = apErr s l := by
  unfold apErr
  rw [chk_nf h, h, (same_nf (ex l)).over]
theorem apT_same {s : List UInt8} {l m : List Part} (h : Same (ex l) (ex m)) : apT s l = apT s m := h.app id s
theorem apT_len {s : List UInt8} {l : List Part} (h : apErr s l = 0) : chk l = 0 ∧ U.over (ex l) = s.length ∧ U.makes (ex l) = (apT s l).length := by
  have hc : chk l = 0 := by unfold apErr at h; split at h; assumption; exact h
  have ho : U.over (ex l) = s.length := by
    unfold apErr at h
    rw [if_pos hc] at h
    split at h
    · assumption
    · cases h
  exact ⟨hc, ho, (U.app_length id (ex l) s ho).symm⟩

set_option maxHeartbeats 4000000 in
theorem spliceNorm_walk (s : ByteArray) (ad : Option Addr) (cap : Nat) (l : List Part) (w : World) (h : PR w ad cap l) :
    Calls Try.prog 3 #[.string s, .slice ad l.length cap] w (TruePost w) := by
  by_cases hc : chk l = 0
  · have hcm := chk_nf hc
    have hnn : nf (ex (nf (ex l))) = nf (ex l) := nf_nf (ex l)
    have hsm := same_nf (ex l)
    have hml := (chk_zero.1 hcm).1
    have her := apErr_nf (s := s.data.toList) hc
    have hT := apT_same (s := s.data.toList) hsm
    have HNO := fun w0 (hb0 : Below w.heap.size w w0) => Norm_pr ad cap l w0 (h.keep hb0) hc
    obtain ⟨m, hm⟩ : ∃ m, nf (ex l) = m := ⟨_, rfl⟩
    rw [hm] at hcm hnn hsm hml her hT HNO
    have HN2 := fun w0 mo mc (hp : PR w0 mo mc m) => Norm_pr mo mc m w0 hp hcm
    have HS1 := fun w0 (hb0 : Below w.heap.size w w0) => Sizes_ok ad cap l w0 (h.keep hb0) hc
    have HS2 := fun w0 mo mc (hp : PR w0 mo mc m) => Sizes_ok mo mc m w0 hp hcm
    rw [hnn] at HN2
    rw [hsm.over, hsm.makes] at HS2
    have HA1 := fun w0 (hb0 : Below w.heap.size w w0) (he : apErr s.data.toList l = 0) => Apply_ok s ad cap l w0 (h.keep hb0) he
    have HA2 := fun w0 (hb0 : Below w.heap.size w w0) (he : apErr s.data.toList l ≠ 0) => Apply_no s ad cap l w0 (h.keep hb0) he
    have HA3 := fun w0 mo mc (hp : PR w0 mo mc m) (he : apErr s.data.toList l = 0) => Apply_ok s mo mc m w0 hp (her.trans he)
    have HA4 := fun w0 mo mc (hp : PR w0 mo mc m) (he : apErr s.data.toList l ≠ 0) => Apply_no s mo mc m w0 hp (by rw [her]; exact he)
    have HEQ := fun w0 ma ca mb cb (hp : PR w0 ma ca m) (hq : PR w0 mb cb m) => partEqual_any ma mb ca cb m w0 hp hq (by omega)
    rw [her] at HA4
    rw [hT] at HA3
    have hlens := fun he : apErr s.data.toList l = 0 => apT_len (s := s.data.toList) he
    have hss : s.data.toList.length = s.size := Array.length_toList
    rw [hss] at hlens
    obtain ⟨OV, hOV⟩ : ∃ O, O = U.over (ex l) := ⟨_, rfl⟩
    obtain ⟨MK, hMK⟩ : ∃ O, O = U.makes (ex l) := ⟨_, rfl⟩
    obtain ⟨E, hE⟩ : ∃ O, O = apErr s.data.toList l := ⟨_, rfl⟩
    obtain ⟨T, hT2⟩ : ∃ O, O = apT s.data.toList l := ⟨_, rfl⟩
    obtain ⟨n, hn⟩ : ∃ n, n = l.length := ⟨_, rfl⟩
    obtain ⟨k, hk⟩ : ∃ n, n = m.length := ⟨_, rfl⟩
    rw [← hn] at HNO HS1 HA1 HA2 ⊢
    rw [← hk] at HN2 HS2 HA3 HA4 HEQ
    rw [← hOV, ← hMK] at HS1 HS2
    rw [← hOV, ← hMK, ← hE, ← hT2] at hlens
    rw [← hE] at HA1 HA2 HA3 HA4
    rw [← hT2] at HA1 HA3
    have HK := Lib.hid hk
    replace HNO := Lib.hid HNO
    replace HN2 := Lib.hid HN2
    replace HS1 := Lib.hid HS1
    replace HS2 := Lib.hid HS2
    replace HA1 := Lib.hid HA1
    replace HA2 := Lib.hid HA2
    replace HA3 := Lib.hid HA3
    replace HA4 := Lib.hid HA4
    replace HEQ := Lib.hid HEQ
    replace hlens := Lib.hid hlens
    clear h hc hcm hnn hsm hml her hT hm hOV hMK hn hE hT2 hss hk
    go_enter Try.func3, Try.ntmps3
    go_wp2_with fail
    refine (splices_any w).mono ?_
    rintro e w0 ⟨rfl, hb0⟩
    have B0 := Lib.hid hb0
    clear hb0
    go_wp2_with fail
    refine (HNO.out w0 B0.out).mono ?_
    rintro e w1 ⟨mo, mc, rfl, hp, hb⟩
    rw [← HK.out]
    have P1 := Lib.hid hp
    have B1 := Lib.hid (B0.out.trans (hb.mono B0.out.size))
    clear hp hb B0
    go_wp2_with fail
    refine (HN2.out w1 _ _ P1.out).mono ?_
    rintro e w2 ⟨mo2, mc2, rfl, hp, hb⟩
    rw [← HK.out]
    have P2 := Lib.hid hp
    have P1' := Lib.hid (P1.out.keep hb)
    have B2 := Lib.hid (B1.out.trans (hb.mono B1.out.size))
    clear hp hb B1 P1
    go_wp2_with fail
    refine (HS1.out w2 B2.out).mono ?_
    rintro e w3 ⟨rfl, hb⟩
    have P13 := Lib.hid (P1'.out.keep hb)
    have P23 := Lib.hid (P2.out.keep hb)
    have B3 := Lib.hid (B2.out.trans (hb.mono B2.out.size))
    clear hb B2 P1' P2
    go_wp2_with fail
    refine (HS2.out w3 _ _ P13.out).mono ?_
    rintro e w4 ⟨rfl, hb⟩
    have P14 := Lib.hid (P13.out.keep hb)
    have P24 := Lib.hid (P23.out.keep hb)
    have B4 := Lib.hid (B3.out.trans (hb.mono B3.out.size))
    clear hb B3 P13 P23
    by_cases hE : E = 0
    · subst hE
      obtain ⟨-, hl1, hl2⟩ := hlens.out rfl
      subst hl1
      subst hl2
      go_wp2_with fail
      refine (HA1.out w4 B4.out (by trivial)).mono ?_
      rintro e w5 ⟨rfl, hb⟩
      have P15 := Lib.hid (P14.out.keep hb)
      have P25 := Lib.hid (P24.out.keep hb)
      have B5 := Lib.hid (B4.out.trans (hb.mono B4.out.size))
      clear hb B4 P14 P24
      go_wp2_with fail
      refine (HA3.out w5 _ _ P15.out (by trivial)).mono ?_
      rintro e w6 ⟨rfl, hb⟩
      have P16 := Lib.hid (P15.out.keep hb)
      have P26 := Lib.hid (P25.out.keep hb)
      have B6 := Lib.hid (B5.out.trans (hb.mono B5.out.size))
      clear hb B5 P15 P25
      have hbs := bs_size T
      go_wp2_with fail
      refine (HEQ.out w6 _ _ _ _ P16.out P26.out).mono ?_
      rintro e w7 ⟨rfl, hb⟩
      have B7 := Lib.hid (B6.out.trans (hb.mono B6.out.size))
      clear hb B6
      go_wp2
      go_ret
      exact ⟨rfl, B7.out⟩
    · have hc3 : decide (E = 0) = false := decide_eq_false hE
      have hc4 : (E == 0) = false := by simpa using hc3
      have hc5 : (E != 0) = true := by simpa using hc3
      have HE := Lib.hid hE
      clear hE
      go_wp2_with fail
      refine (HA2.out w4 B4.out HE.out).mono ?_
      rintro e w5 ⟨rfl, hb⟩
      have P15 := Lib.hid (P14.out.keep hb)
      have P25 := Lib.hid (P24.out.keep hb)
      have B5 := Lib.hid (B4.out.trans (hb.mono B4.out.size))
      clear hb B4 P14 P24
      go_wp2_with fail
      refine (HA4.out w5 _ _ P15.out HE.out).mono ?_
      rintro e w6 ⟨rfl, hb⟩
      have P16 := Lib.hid (P15.out.keep hb)
      have P26 := Lib.hid (P25.out.keep hb)
      have B6 := Lib.hid (B5.out.trans (hb.mono B5.out.size))
      clear hb B5 P15 P25
      go_wp2_with fail
      refine (HEQ.out w6 _ _ _ _ P16.out P26.out).mono ?_
      rintro e w7 ⟨rfl, hb⟩
      have B7 := Lib.hid (B6.out.trans (hb.mono B6.out.size))
      clear hb B6
      go_wp2
      go_ret
      exact ⟨rfl, B7.out⟩
  · have HP := Lib.hid h
    have HC := Lib.hid hc
    clear h hc
    obtain ⟨n, hn⟩ : ∃ n, n = l.length := ⟨_, rfl⟩
    have HN := Lib.hid hn
    rw [← hn]
    clear hn
    go_enter Try.func3, Try.ntmps3
    go_wp2_with fail
    refine (splices_any w).mono ?_
    rintro e w0 ⟨rfl, hb0⟩
    have HB0 := Lib.hid hb0
    clear hb0
    go_wp2_with fail
    rw [HN.out]
    refine (Norm_no ad cap l w0 (HP.out.keep HB0.out) HC.out).mono ?_
    rintro e w1 ⟨rfl, hb1⟩
    have HB1 := Lib.hid (HB0.out.trans (hb1.mono HB0.out.size))
    clear hb1
    obtain ⟨c, hcc⟩ : ∃ c, c = chk l := ⟨_, rfl⟩
    have hc3 : decide (c = 0) = false := decide_eq_false (by rw [hcc]; exact HC.out)
    have hc4 : (c == 0) = false := by simpa using hc3
    have hc5 : (c != 0) = true := by simpa using hc3
    rw [← hcc]
    clear hcc
    go_wp2
    go_ret
    exact ⟨rfl, HB1.out⟩
end Go.Proofs.Ytacmgnidnonjhaa
