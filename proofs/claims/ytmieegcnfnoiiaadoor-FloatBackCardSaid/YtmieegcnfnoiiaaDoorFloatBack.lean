/-
  The walk of typecasekeep.FloatBack. No conditions.
-/
import Derived.Test.YtmieegcnfnoiiaaDoorShortBack
import Derived.Test.YtmieegcnfnoiiaaDoorFloatShort
namespace Go.Proofs.YtmieegcnfnoiiaaDoor
open Go.RowKit Gx
set_option maxRecDepth 100000

theorem dec_head (m : Nat) (h : m ≠ 0) : (decText m).head? ≠ some 48 := by
  intro hc
  have h1 := (decOk_text m).2.2 hc
  by_cases hs : m < 10
  · rw [text_small m hs] at hc
    exact byteOf_ne m hs h (by simpa using hc)
  · rw [text_big m (by omega), List.length_append] at h1
    have := text_pos (m / 10)
    simp only [List.length_cons, List.length_nil] at h1
    omega
theorem dec_last (m : Nat) (h : m % 10 ≠ 0) : (decText m).getLast? ≠ some 48 := by
  intro hc
  by_cases hs : m < 10
  · rw [text_small m hs] at hc
    exact byteOf_ne m hs (by omega) (by simpa using hc)
  · rw [text_big m (by omega)] at hc
    exact byteOf_ne (m % 10) (by omega) h (by simpa using hc)
theorem bytes_first (s : ByteArray) (l : List UInt8) (hs : s = ⟨l.toArray⟩) (h : 0 < s.size) (hl : l.head? ≠ some 48) : s[0] ≠ 48 := by
  subst hs
  intro hc
  apply hl
  have h1 : 0 < l.length := by simpa [ByteArray.size] using h
  cases l with
  | nil => simp at h1
  | cons a t =>
    have : a = 48 := hc
    simp [this]
theorem bytes_last (s : ByteArray) (l : List UInt8) (hs : s = ⟨l.toArray⟩) (i : Nat) (h : i < s.size) (hi : i = s.size - 1) (hl : l.getLast? ≠ some 48) : s[i] ≠ 48 := by
  subst hs
  intro hc
  apply hl
  have h2 : (⟨l.toArray⟩ : ByteArray).size = l.length := by simp [ByteArray.size]
  rw [h2] at hi h
  have h3 : l[i] = 48 := hc
  rw [List.getLast?_eq_getElem?, ← hi, List.getElem?_eq_getElem h, h3]

set_option maxHeartbeats 4000000 in
theorem floatBack_walk (b : Nat) (w : World) (hb : b < 18446744073709551616) :
    Calls Tryd.prog 6 #[.int .u64 b] w (TruePost2 w) := by
  have HF := Lib.hid (floats_any w)
  have ha := andnot_sign b hb
  have hS := short_any b w hb
  have HPA := Lib.hid (fun w0 => parts_any b w0 hb)
  obtain ⟨B, hB⟩ : ∃ B, B = b % 9223372036854775808 := ⟨_, rfl⟩
  have hdiv : b / 4503599627370496 % 2048 = 2047 ∨ B = 0 → ∀ (m : Nat) (x k : Int), ((b / 4503599627370496 % 2048 = 2047 ∧ m = 0 ∧ ((b % 4503599627370496 = 0 ∧ k = 1) ∨ (b % 4503599627370496 ≠ 0 ∧ k = 2))) ∨
     (b / 4503599627370496 % 2048 ≠ 2047 ∧ k = 0 ∧ m < 9007199254740992 ∧ ∃ E : Nat, x = (E : Int) - 1074 ∧ E ≤ 2045 ∧ (E = 0 ∨ 4503599627370496 ≤ m) ∧ b % 9223372036854775808 = E * 4503599627370496 + m)) → m = 0 ∧ 0 ≤ k ∧ k ≤ 2 := by
    rintro h m x k (⟨h1, h2, h3⟩ | ⟨h1, h2, h3, E, h4, h5, h6, h7⟩)
    · exact ⟨h2, by omega, by omega⟩
    · have hz : B = 0 := h.resolve_left h1
      exact ⟨by omega, by omega, by omega⟩
  have HDIV := Lib.hid hdiv
  unfold ShortPost at hS
  rw [← hB] at ha hS
  have HS := Lib.hid hS
  clear hS hB hb hdiv
  go_enter Tryd.func6, Tryd.ntmps6
  go_wp2_with fail
  refine HF.out.mono ?_
  rintro e0 w1 ⟨rfl, rfl⟩
  go_wp2_with fail
  refine HS.out.mono ?_
  rintro e0 w1 (⟨hor, rfl, hb1⟩ | ⟨h1, h2, c, kk, hc, rfl, hb1⟩)
  · have HP := HPA.out w1
    unfold PartsPost at HP
    have HP2 := Lib.hid (HP.mono (R' := fun e w' => ∃ x k : Int, 0 ≤ k ∧ k ≤ 2 ∧ e = .returned (.tuple #[.int .u64 0, .int .i64 x, .int .i64 k]) ∧ w1 = w') (by
      rintro e w' ⟨m, x, k, rfl, h, rfl⟩
      obtain ⟨rfl, h3, h4⟩ := HDIV.out hor m x k h
      exact ⟨x, k, h3, h4, rfl, rfl⟩))
    have B1 := Lib.hid hb1
    clear hb1 HP HPA HDIV HS hor
    go_wp2_with fail
    refine HP2.out.mono ?_
    rintro e0 w2 ⟨x, k, k1, k2, rfl, rfl⟩
    by_cases hk : 0 < k
    · have t0 : decide (0 < k) = true := decide_eq_true hk
      go_wp2
      go_ret
      exact ⟨rfl, B1.out⟩
    · have t0 : decide (0 < k) = false := decide_eq_false hk
      go_wp2
      go_ret
      exact ⟨rfl, B1.out⟩
  · have hc0 := shortIs_pos hc h2
    have hlen := shortIs_len hc
    obtain ⟨m, z, e1, e2, e3, e4⟩ := short_parts c hc0
    have hdl : (decText c).length ≤ 30 := dec_len c (by omega)
    have hm0 : m ≠ 0 := by intro h; rw [h, Nat.zero_mul] at e1; exact hc0 e1
    have hmc : m ≤ c := by rw [e1]; exact Nat.le_mul_of_pos_right m (Nat.pow_pos (by decide))
    have hpos := text_pos m
    have hkk : kk + ((decText c).length : Int) - ((shortOf c).length : Int) = kk + (z : Int) := by rw [e3, e4]; omega
    have hkr : -420 ≤ kk ∧ kk ≤ 400 := by
      obtain ⟨N, D, top, n0, -, -, -, g1, g2, g3, g4, rfl, -⟩ := hc
      omega
    have hit : Hits c kk B := by
      obtain ⟨N, D, top, n0, -, -, -, -, -, -, -, rfl, -, g, -⟩ := hc
      exact g
    obtain ⟨s, hs⟩ : ∃ s : ByteArray, s = ⟨(shortOf c).toArray⟩ := ⟨_, rfl⟩
    have hsl : s.data.toList = decText m := by rw [hs, e3]
    have hsz : s.size = (decText m).length := by rw [hs, e3]; simp [ByteArray.size]
    have hs17 : s.size ≤ 17 := by rw [hsz, ← e3]; exact hlen.2
    have hsp : 0 < s.size := by omega
    have hsi : s.size - 1 < s.size := Nat.sub_lt hsp (by decide)
    have hfst : s[0] ≠ 48 := bytes_first s (decText m) (by rw [hs, e3]) hsp (dec_head m hm0)
    have hlst : s[s.size - 1]'hsi ≠ 48 := bytes_last s (decText m) (by rw [hs, e3]) _ (by omega) rfl (dec_last m e2)
    rw [hkk, ← hs]
    have hR := fun w0 => bigRead_any s w0
    rw [hsl] at hR
    have hR2 := fun w0 => (hR w0).mono (R' := fun e w' => ∃ ad cap, e = .returned (.tuple #[.slice ad (canon m).length cap, .int .i64 0]) ∧ Rd .u32 w' ad cap (canon m) ∧ Below w0.heap.size w0 w') (by
      rintro e w' (⟨-, -, ad, cap, rfl, h2, h3⟩ | ⟨h, -⟩)
      · rw [decVal_text] at h2 ⊢
        exact ⟨ad, cap, rfl, h2, h3⟩
      · exact absurd ⟨decOk_text m, by omega⟩ h)
    have hm9 : m ≤ 1000000000000000000 := by omega
    have HNR := Lib.hid (fun w0 po pc (hr : Rd .u32 w0 po pc (canon m)) =>
      near_two' po pc (canon m) w0 m (kk + (z : Int)) hr (bval_canon _) (Nat.le_trans (fits_64 m (by omega)).len (by decide)) (by omega) (by omega) (Nat.le_trans (blen_of_fits _ _ (fits_64 m (by omega))) (by decide)))
    unfold NearPost at HNR
    have HEQ := Lib.hid (show ∀ x, Rnd (Y75 (m * tenUp (kk + (z : Int)))) (tenDn (kk + (z : Int))) x → x = B from fun x h => hits_parts hit e1 h)
    have HR := Lib.hid hR2
    have B1 := Lib.hid hb1
    obtain ⟨q, hq⟩ : ∃ q, q = kk + (z : Int) := ⟨_, rfl⟩
    rw [← hq] at HNR HEQ ⊢
    have tf : ((s[0].toNat : Int) != 48) = true := by
      rw [bne_iff_ne]
      intro h
      exact hfst (UInt8.toNat_inj.1 (by have : s[0].toNat = 48 := by omega
                                        rw [this]; rfl))
    have tl : (((s[s.size - 1]'hsi).toNat : Int) != 48) = true := by
      rw [bne_iff_ne]
      intro h
      exact hlst (UInt8.toNat_inj.1 (by have : (s[s.size - 1]'hsi).toNat = 48 := by omega
                                        rw [this]; rfl))
    have t17 : decide ((s.size : Int) ≤ 17) = true := decide_eq_true (by omega)
    clear hc hc0 hlen e1 e2 e3 e4 hdl hm0 hmc hpos hkk hkr hit hsl hsz hR hR2 hm9 hb1 hq hs hfst hlst HPA HDIV HS h1 h2
    go_wp2_with fail
    refine (HR.out w1).mono ?_
    rintro e0 w2 ⟨mo, mc, rfl, hr, hb⟩
    have B2 := Lib.hid (B1.out.trans (hb.mono B1.out.size))
    have HN := Lib.hid (HNR.out w2 mo mc hr)
    clear hr hb B1 HR
    go_wp2_with fail
    refine HN.out.mono ?_
    rintro e0 w3 ⟨x, rfl, hr, hb⟩
    obtain rfl := HEQ.out x hr
    have B3 := Lib.hid (B2.out.trans (hb.mono B2.out.size))
    clear hr hb B2 HN HEQ HNR
    go_wp2
    go_ret
    refine ⟨?_, B3.out⟩
    first | rfl | (congr 2) | (simp [tl, tf, t17])

theorem floatBack_all (b : Int) (w : World) (hb : (Lit.int .u64 b).wf = true) :
    Calls Tryd.prog 6 #[.int .u64 b] w (TruePost2 w) := by
  obtain ⟨x, rfl, hx⟩ := nat_of_u64 b hb
  exact floatBack_walk x w hx
end Go.Proofs.YtmieegcnfnoiiaaDoor
