/-
  The statement SpliceNothing's walk: to keep all is nothing. Conditions: the parts lie where the argument says.
-/
import Derived.Test.YtacmgnidnonjhaaSpliceFin
namespace Go.Proofs.Ytacmgnidnonjhaa
open Go.RowKit Gx

def KeepPost (n : Nat) (w : World) (e : Ending) (w' : World) : Prop :=
  ∃ mo mc, e = .returned (.slice mo 1 mc) ∧ PR w' mo mc (keepAll n) ∧ Below w.heap.size w w'
theorem keep_any (n : Nat) (w : World) (h : n ≤ 20000) :
    Calls Try.prog 16 #[.int .i64 n] w (KeepPost n w) := by
  have hrow : (w.alloc (.cells #[.int .i64 1, .int .i64 n, .string ⟨#[]⟩] 33)).heap[w.heap.size]? = some (.cells #[.int .i64 1, .int .i64 n, .string ⟨#[]⟩] 33 (0, 0)) := heap_alloc_new w _
  have hp : PR (w.alloc (.cells #[.int .i64 1, .int .i64 n, .string ⟨#[]⟩] 33)) (some ⟨w.heap.size, 0, none⟩) 1 (keepAll n) := by
    refine ⟨by simp [keepAll], by decide, fun q hq => ?_, (fun h => by cases h), fun a ha _ => ?_⟩
    · exact wf_of_chk (chk_keepAll n h) q hq
    · obtain rfl := Option.some.inj ha
      refine ⟨rfl, by simp, fun j q hj => ?_⟩
      cases j with
      | zero =>
        simp [keepAll] at hj
        subst hj
        exact ⟨by rw [cell_of_row _ _ _ _ _ _ hrow]; rfl, by rw [cell_of_row _ _ _ _ _ _ hrow]; rfl, by rw [cell_of_row _ _ _ _ _ _ hrow]; rfl⟩
      | succ j => simp [keepAll] at hj
  have HP := Lib.hid hp
  clear hp hrow h
  go_enter Try.func16, Try.ntmps16
  go_wp2
  go_ret
  exact ⟨_, _, rfl, HP.out, (Below.refl _ _).alloc (Nat.le_refl _) _⟩

set_option maxHeartbeats 4000000 in
theorem spliceNothing_walk (ad : Option Addr) (cap : Nat) (l : List Part) (w : World) (h : PR w ad cap l) :
    Calls Try.prog 7 #[.slice ad l.length cap] w (TruePost w) := by
  by_cases hc : chk l = 0
  · obtain ⟨⟨k1, k2⟩, ⟨k3, k4⟩, ⟨k5, k6, k7⟩, k8⟩ := nothing_law hc
    obtain ⟨-, -, ho, hm⟩ := chk_zero.1 hc
    have HN1 := fun w0 (hb0 : Below w.heap.size w w0) => Norm_pr ad cap l w0 (h.keep hb0) hc
    have HS1 := fun w0 (hb0 : Below w.heap.size w w0) => Sizes_ok ad cap l w0 (h.keep hb0) hc
    have HK1 := fun w0 => keep_any (U.over (ex l)) w0 ho
    have HK2 := fun w0 => keep_any (U.makes (ex l)) w0 hm
    have HC1 := fun w0 (hb0 : Below w.heap.size w w0) mo mc (hp : PR w0 mo mc (keepAll (U.over (ex l)))) => Compose_w mo ad mc cap (keepAll (U.over (ex l))) l w0 hp (h.keep hb0)
    have HC2 := fun w0 (hb0 : Below w.heap.size w w0) mo mc (hp : PR w0 mo mc (keepAll (U.makes (ex l)))) => Compose_w ad mo cap mc l (keepAll (U.makes (ex l))) w0 (h.keep hb0) hp
    have HT1 := fun w0 (hb0 : Below w.heap.size w w0) mo mc (hp : PR w0 mo mc (keepAll (U.over (ex l)))) => Transform_w mo ad mc cap (keepAll (U.over (ex l))) l w0 hp (h.keep hb0)
    have HN2 := fun w0 mo mc (hp : PR w0 mo mc (keepAll (U.makes (ex l)))) => Norm_pr mo mc (keepAll (U.makes (ex l))) w0 hp k8
    have hl1 := (chk_zero.1 (chk_nf hc)).1
    have hl2 := (chk_zero.1 (chk_nf k8)).1
    have K2 := Lib.hid k2
    have K4 := Lib.hid k4
    have K6 := Lib.hid k6
    have K7 := Lib.hid k7
    obtain ⟨N, hN⟩ : ∃ N, N = nf (ex l) := ⟨_, rfl⟩
    obtain ⟨M, hM⟩ : ∃ N, N = nf (ex (keepAll (U.makes (ex l)))) := ⟨_, rfl⟩
    rw [← hN] at HN1 hl1 K2 K4 K7
    rw [← hM] at HN2 hl2 K6
    obtain ⟨ko, hko⟩ : ∃ N, N = keepAll (U.over (ex l)) := ⟨_, rfl⟩
    obtain ⟨km, hkm⟩ : ∃ N, N = keepAll (U.makes (ex l)) := ⟨_, rfl⟩
    have hlo : ko.length = 1 := by rw [hko]; rfl
    have hlm : km.length = 1 := by rw [hkm]; rfl
    unfold KeepPost at HK1 HK2
    rw [← hko] at k1 k5 HK1 HC1 HT1 K2 K6 K7
    rw [← hkm] at k3 HK2 HC2 HN2 K4
    rw [hlo] at HC1 HT1
    rw [hlm] at HC2 HN2
    have HE1 := fun w0 ma ca mb cb (hp : PR w0 ma ca N) (hq : PR w0 mb cb N) => partEqual_any ma mb ca cb N w0 hp hq (by omega)
    have HE2 := fun w0 ma ca mb cb (hp : PR w0 ma ca M) (hq : PR w0 mb cb M) => partEqual_any ma mb ca cb M w0 hp hq (by omega)
    obtain ⟨n, hn⟩ : ∃ n, n = l.length := ⟨_, rfl⟩
    obtain ⟨j, hj⟩ : ∃ n, n = N.length := ⟨_, rfl⟩
    obtain ⟨k, hk⟩ : ∃ n, n = M.length := ⟨_, rfl⟩
    obtain ⟨OV, hOV⟩ : ∃ n, n = U.over (ex l) := ⟨_, rfl⟩
    obtain ⟨MK, hMK⟩ : ∃ n, n = U.makes (ex l) := ⟨_, rfl⟩
    rw [← hOV, ← hMK] at HS1
    rw [← hOV] at HK1
    rw [← hMK] at HK2
    rw [← hn] at HN1 HS1 HC1 HC2 HT1 ⊢
    rw [← hj] at HE1
    rw [← hk] at HE2
    have HJ := Lib.hid hj
    have HK := Lib.hid hk
    replace HN1 := Lib.hid HN1
    replace HS1 := Lib.hid HS1
    replace HK1 := Lib.hid HK1
    replace HK2 := Lib.hid HK2
    replace HC1 := Lib.hid HC1
    replace HC2 := Lib.hid HC2
    replace HT1 := Lib.hid HT1
    replace HN2 := Lib.hid HN2
    replace HE1 := Lib.hid HE1
    replace HE2 := Lib.hid HE2
    have G1 := Lib.hid k1
    have G3 := Lib.hid k3
    have G5 := Lib.hid k5
    clear h hc k1 k2 k3 k4 k5 k6 k7 k8 ho hm hl1 hl2 hN hM hko hkm hlo hlm hn hj hk hOV hMK
    go_enter Try.func7, Try.ntmps7
    go_wp2_with fail
    refine (splices_any w).mono ?_
    rintro e w0 ⟨rfl, hb0⟩
    have B0 := Lib.hid hb0
    clear hb0
    go_wp2_with fail
    refine (HN1.out w0 B0.out).mono ?_
    rintro e w1 ⟨o1, q1, rfl, hp, hb⟩
    rw [← HJ.out]
    have P1 := Lib.hid hp
    have B1 := Lib.hid (B0.out.trans (hb.mono B0.out.size))
    clear hp hb B0
    go_wp2_with fail
    refine (HS1.out w1 B1.out).mono ?_
    rintro e w2 ⟨rfl, hb⟩
    have P2 := Lib.hid (P1.out.keep hb)
    have B2 := Lib.hid (B1.out.trans (hb.mono B1.out.size))
    clear hb B1 P1
    go_wp2_with fail
    refine (HK1.out w2).mono ?_
    rintro e w3 ⟨o2, q2, rfl, hp, hb⟩
    have P3 := Lib.hid (P2.out.keep hb)
    have B3 := Lib.hid (B2.out.trans (hb.mono B2.out.size))
    have KK := Lib.hid hp
    clear hp hb B2 P2
    go_wp2_with fail
    refine (HC1.out w3 B3.out _ _ KK.out).mono ?_
    rintro e w4 ⟨o3, i3, q3, c3, rfl, hc0, hc1, hb⟩
    obtain rfl := hc0.2 G1.out
    obtain ⟨rfl, hp⟩ := hc1 rfl
    rw [K2.out] at hp ⊢
    rw [← HJ.out]
    have A4 := Lib.hid hp
    have P4 := Lib.hid (P3.out.keep hb)
    have B4 := Lib.hid (B3.out.trans (hb.mono B3.out.size))
    clear hp hb B3 P3 KK hc0 hc1
    go_wp2_with fail
    refine (HK2.out w4).mono ?_
    rintro e w5 ⟨o5, q5, rfl, hp, hb⟩
    have A5 := Lib.hid (A4.out.keep hb)
    have P5 := Lib.hid (P4.out.keep hb)
    have B5 := Lib.hid (B4.out.trans (hb.mono B4.out.size))
    have KK := Lib.hid hp
    clear hp hb B4 P4 A4
    go_wp2_with fail
    refine (HC2.out w5 B5.out _ _ KK.out).mono ?_
    rintro e w6 ⟨o6, i6, q6, c6, rfl, hc0, hc1, hb⟩
    obtain rfl := hc0.2 G3.out
    obtain ⟨rfl, hp⟩ := hc1 rfl
    rw [K4.out] at hp ⊢
    rw [← HJ.out]
    have C6 := Lib.hid hp
    have A6 := Lib.hid (A5.out.keep hb)
    have P6 := Lib.hid (P5.out.keep hb)
    have B6 := Lib.hid (B5.out.trans (hb.mono B5.out.size))
    clear hp hb B5 P5 A5 KK hc0 hc1
    go_wp2_with fail
    refine (HK1.out w6).mono ?_
    rintro e w7 ⟨o7, q7, rfl, hp, hb⟩
    have C7 := Lib.hid (C6.out.keep hb)
    have A7 := Lib.hid (A6.out.keep hb)
    have P7 := Lib.hid (P6.out.keep hb)
    have B7 := Lib.hid (B6.out.trans (hb.mono B6.out.size))
    have KK := Lib.hid hp
    clear hp hb B6 P6 A6 C6
    go_wp2_with fail
    refine (HT1.out w7 B7.out _ _ KK.out).mono ?_
    rintro e w8 ⟨o8, o9, i8, i9, q8, q9, c8, rfl, hc0, hc1, hc2, hb⟩
    obtain rfl := hc0.2 G5.out
    obtain ⟨⟨rfl, hp⟩, rfl, hq⟩ := hc1 rfl
    rw [K6.out] at hp
    rw [K7.out] at hq
    rw [K6.out, K7.out]
    rw [← HJ.out, ← HK.out]
    have X8 := Lib.hid hp
    have Y8 := Lib.hid hq
    have C8 := Lib.hid (C7.out.keep hb)
    have A8 := Lib.hid (A7.out.keep hb)
    have P8 := Lib.hid (P7.out.keep hb)
    have B8 := Lib.hid (B7.out.trans (hb.mono B7.out.size))
    clear hp hq hb B7 P7 A7 C7 KK hc0 hc1 hc2
    go_wp2_with fail
    refine (HK2.out w8).mono ?_
    rintro e w9 ⟨oa, qa, rfl, hp, hb⟩
    have X9 := Lib.hid (X8.out.keep hb)
    have Y9 := Lib.hid (Y8.out.keep hb)
    have C9 := Lib.hid (C8.out.keep hb)
    have A9 := Lib.hid (A8.out.keep hb)
    have P9 := Lib.hid (P8.out.keep hb)
    have B9 := Lib.hid (B8.out.trans (hb.mono B8.out.size))
    have KK := Lib.hid hp
    clear hp hb B8 P8 A8 C8 X8 Y8
    go_wp2_with fail
    refine (HN2.out w9 _ _ KK.out).mono ?_
    rintro e wa ⟨ob, qb, rfl, hp, hb⟩
    rw [← HK.out]
    have Za := Lib.hid hp
    have Xa := Lib.hid (X9.out.keep hb)
    have Ya := Lib.hid (Y9.out.keep hb)
    have Ca := Lib.hid (C9.out.keep hb)
    have Aa := Lib.hid (A9.out.keep hb)
    have Pa := Lib.hid (P9.out.keep hb)
    have Ba := Lib.hid (B9.out.trans (hb.mono B9.out.size))
    clear hp hb B9 P9 A9 C9 X9 Y9 KK
    go_wp2_with fail
    refine (HE1.out wa _ _ _ _ Aa.out Pa.out).mono ?_
    rintro e wb ⟨rfl, hb⟩
    have Zb := Lib.hid (Za.out.keep hb)
    have Xb := Lib.hid (Xa.out.keep hb)
    have Yb := Lib.hid (Ya.out.keep hb)
    have Cb := Lib.hid (Ca.out.keep hb)
    have Pb := Lib.hid (Pa.out.keep hb)
    have Bb := Lib.hid (Ba.out.trans (hb.mono Ba.out.size))
    clear hb Ba Pa Aa Ca Xa Ya Za
    go_wp2_with fail
    refine (HE1.out wb _ _ _ _ Cb.out Pb.out).mono ?_
    rintro e wc ⟨rfl, hb⟩
    have Zc := Lib.hid (Zb.out.keep hb)
    have Xc := Lib.hid (Xb.out.keep hb)
    have Yc := Lib.hid (Yb.out.keep hb)
    have Pc := Lib.hid (Pb.out.keep hb)
    have Bc := Lib.hid (Bb.out.trans (hb.mono Bb.out.size))
    clear hb Bb Pb Cb Xb Yb Zb
    go_wp2_with fail
    refine (HE2.out wc _ _ _ _ Xc.out Zc.out).mono ?_
    rintro e wd ⟨rfl, hb⟩
    have Yd := Lib.hid (Yc.out.keep hb)
    have Pd := Lib.hid (Pc.out.keep hb)
    have Bd := Lib.hid (Bc.out.trans (hb.mono Bc.out.size))
    clear hb Bc Pc Xc Yc Zc
    go_wp2_with fail
    refine (HE1.out wd _ _ _ _ Yd.out Pd.out).mono ?_
    rintro e we ⟨rfl, hb⟩
    have Be := Lib.hid (Bd.out.trans (hb.mono Bd.out.size))
    clear hb
    go_wp2
    go_ret
    exact ⟨rfl, Be.out⟩
  · have HN1 := Lib.hid (fun w0 (hb0 : Below w.heap.size w w0) => Norm_no ad cap l w0 (h.keep hb0) hc)
    have HS1 := Lib.hid (fun w0 (hb0 : Below w.heap.size w w0) => Sizes_no ad cap l w0 (h.keep hb0) hc)
    obtain ⟨n, hn⟩ : ∃ n, n = l.length := ⟨_, rfl⟩
    obtain ⟨c, hcc⟩ : ∃ c, c = chk l := ⟨_, rfl⟩
    rw [← hcc] at hc HN1 HS1
    rw [← hn] at HN1 HS1 ⊢
    obtain ⟨t1, t2, t3⟩ := kne hc
    clear h hc hcc hn
    go_enter Try.func7, Try.ntmps7
    go_wp2_with fail
    refine (splices_any w).mono ?_
    rintro e w0 ⟨rfl, hb0⟩
    have B0 := Lib.hid hb0
    clear hb0
    go_wp2_with fail
    refine (HN1.out w0 B0.out).mono ?_
    rintro e w1 ⟨rfl, hb⟩
    have B1 := Lib.hid (B0.out.trans (hb.mono B0.out.size))
    clear hb B0
    go_wp2_with fail
    refine (HS1.out w1 B1.out).mono ?_
    rintro e w2 ⟨rfl, hb⟩
    have B2 := Lib.hid (B1.out.trans (hb.mono B1.out.size))
    clear hb B1
    go_wp2
    go_ret
    exact ⟨rfl, B2.out⟩
end Go.Proofs.Ytacmgnidnonjhaa
