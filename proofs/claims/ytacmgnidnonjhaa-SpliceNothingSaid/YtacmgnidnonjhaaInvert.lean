/-
  The contracts of splice.Invert. Conditions: the parts lie where the argument says.
-/
import Derived.Test.YtacmgnidnonjhaaSpliceNorm
namespace Go.Proofs.Ytacmgnidnonjhaa
open Go.RowKit Gx

theorem inv_bound (xs : List U) (s : List UInt8) : U.over (inv xs s) + U.makes (inv xs s) ≤ U.over xs + U.makes xs := by
  induction xs generalizing s with
  | nil => simp [inv]
  | cons u r ih =>
    cases u with
    | k => have := ih (s.drop 1); simp only [inv, U.over, U.makes]; omega
    | c => cases s with
      | nil => have := ih []; simp only [inv, U.over, U.makes]; omega
      | cons a s => have := ih s; simp only [inv, U.over, U.makes]; omega
    | p b => have := ih s; simp only [inv, U.over, U.makes]; omega

/-- what builders make of few bytes are numbers, and texts, of few bytes -/
theorem wf_nf {us : List U} (h : U.over us + U.makes us ≤ 90000) : ∀ q ∈ nf us, (Lit.int .i64 q.1).wf = true ∧ (Lit.int .i64 q.2.1).wf = true ∧ q.2.2.length ≤ 9223372036854775807 := by
  intro q hq
  have hz := nz_nf us q hq
  obtain ⟨hk, hn, h3, h4⟩ := hz.1
  have hs := same_nf us
  have h1 := over_ex1 q hz.1
  have h2 := makes_ex1 q hz.1
  have h5 := over_mem hq
  have h6 := makes_mem hq
  rw [hs.over] at h5
  rw [hs.makes] at h6
  have hN : q.2.1 ≤ 90000 := by
    by_cases h7 : q.1 = 3
    · have := h3 h7; omega
    · rw [if_neg h7] at h1; omega
  have hS : q.2.2.length ≤ 90000 := by
    by_cases h7 : q.1 = 2
    · have := h4 (by omega); rw [this]; simp
    · rw [if_neg h7] at h2; omega
  refine ⟨?_, ?_, by omega⟩
  · simp [Lit.wf, IntKind.min, IntKind.max, IntKind.signed, IntKind.bits]; omega
  · simp [Lit.wf, IntKind.min, IntKind.max, IntKind.signed, IntKind.bits]; omega

theorem RestAt.front {S : List UInt8} {l : List Part} {j ov : Nat} {t : ByteArray} (h : RestAt S l j ov t) (n : Nat) : t.extract 0 n = bs ((S.drop ov).take n) := by rw [h.t, bs_front]

/-- the builder of the way back -/
abbrev invSt (S : List UInt8) (l : List Part) (j : Nat) : Bst := stU (inv (ex (l.take j)) S)

theorem invSt_step (S : List UInt8) (l : List Part) (j ov : Nat) (q r : Part) (hq : l[j]? = some q) (ho : ov = U.over (ex (l.take j))) (hr : okP r) (he : ex1 r = inv (ex1 q) (S.drop ov)) : addS (invSt S l j) r = invSt S l (j + 1) := by
  unfold invSt
  rw [stU_add _ _ hr, he, ex_take l j q hq, inv_append, ho]

theorem invSt_small (S : List UInt8) (l : List Part) (j : Nat) (r : Part) (ho : U.over (ex l) ≤ 20000) (hm : U.makes (ex l) ≤ 20000) (hn : r.2.1 ≤ 90000) (hs : r.2.2.length ≤ 90000) : Small (invSt S l j) r := by
  have h1 := take_bound l j
  have h2 := inv_bound (ex (l.take j)) S
  exact small_of _ r (by omega) hn hs

set_option maxHeartbeats 4000000 in
theorem Invert_pr (s : ByteArray) (ad : Option Addr) (cap : Nat) (l : List Part) (w : World) (h : PR w ad cap l) (hl : apErr s.data.toList l = 0) :
    Calls Try.prog 13 #[.string s, .slice ad l.length cap] w (PartsPost (nf (inv (ex l) s.data.toList)) w) := by
  obtain ⟨hc, ho, -⟩ := apT_len hl
  have hss : s.data.toList.length = s.size := Array.length_toList
  obtain ⟨hlen, hpe, hov, hmk⟩ := chk_zero.1 hc
  have hwf := wf_nf (us := inv (ex l) s.data.toList) (by have := inv_bound (ex l) s.data.toList; omega)
  have HAP := Apply_ok s ad cap l w h hl
  have HP := Lib.hid h
  have HPE := Lib.hid hpe
  have HMK := Lib.hid hmk
  have HOV2 := Lib.hid hov
  have HWF := Lib.hid hwf
  have hsz : s.size ≤ 20000 := by omega
  obtain ⟨n, hn⟩ : ∃ n, n = l.length := ⟨_, rfl⟩
  obtain ⟨S, hS⟩ : ∃ S, S = s.data.toList := ⟨_, rfl⟩
  have hov2 : U.over (ex l) = s.size := by omega
  rw [← hn] at hlen HAP ⊢
  rw [← hS] at HWF hss ⊢
  have HA := Lib.hid HAP
  have HN := Lib.hid hn
  have HS := Lib.hid hS
  have HOV := Lib.hid hov2
  clear h hl hc ho hpe hmk hn hS hov hss hov2 HAP hwf
  go_enter Try.func13, Try.ntmps13
  go_wp2_with fail
  refine HA.out.mono ?_
  rintro e w1 ⟨rfl, hb1⟩
  have HB1 := Lib.hid hb1
  have hz1 := hb1.size
  have hbd := init_bd w1
  obtain ⟨w0, hw0⟩ : ∃ w0, w0 = w1.alloc (.cells #[.slice none 0 0, .int .i64 0, .string ⟨#[]⟩] 54) := ⟨_, rfl⟩
  have HB0 : Below w1.heap.size w1 w0 := by rw [hw0]; exact (Below.refl _ w1).alloc (Nat.le_refl _) _
  rw [← hw0] at hbd
  have HBD := Lib.hid hbd
  have HBB := Lib.hid HB0
  have HW := Lib.hid hw0
  clear hb1 HA hbd HB0
  go_wp2
  rw [← HW.out]
  clear HW hw0
  go_loopw [0, 22] (fun v i wr => ∃ (j ov : Nat) (t : ByteArray) (F : Nat → Prop) (u : Value), j ≤ n ∧ i = .int .i64 j ∧ v = .string t ∧ Hid (RestAt S l j ov t) ∧ t.size + ov = s.size ∧
      Hid (Bd wr w1.heap.size F w1.heap.size (invSt S l j) u) ∧ Hid (Below w1.heap.size w1 wr)) (fun _ i _ => n - (intOf i).toNat)
  case atStart => exact ⟨0, 0, s, _, _, Nat.zero_le _, rfl, rfl, ⟨by rw [HS.out]; rfl, rfl⟩, by omega, HBD, HBB⟩
  case round =>
    obtain ⟨j, ov, t, F, u, hj, rfl, rfl, hR, hts, hB, hb⟩ := hrel
    by_cases hlt : j < n
    · have hjl : j < l.length := by have := HN.out; omega
      obtain ⟨q, hq⟩ : ∃ q, l[j]? = some q := ⟨_, List.getElem?_eq_getElem hjl⟩
      obtain ⟨b, off, rfl, hbl, hcell⟩ := ((HP.out.keep HB1.out).keep hb.out).addr (by omega)
      obtain ⟨c0, c1, c2⟩ := hcell j q hq
      have hqm := List.mem_of_getElem? hq
      obtain ⟨hqok, hqn, hqs⟩ := partErr_ok (HPE.out q hqm)
      have hto := take_bound l (j + 1)
      have hot := over_take l j q hq
      have hro := hR.out.ov
      have hNs : U.over (ex1 q) ≤ t.size := by have := HOV.out; omega
      have hsl : U.over (ex1 q) ≤ (S.drop ov).length := by have h1 := hR.out.t; have h2 := congrArg ByteArray.size h1; rw [bs_size] at h2; omega
      have hip := inv_part q hqok (S.drop ov) hsl
      have HIP := Lib.hid hip
      have HQ := Lib.hid hq
      have HQOK := Lib.hid hqok
      have hsb := hb.out.size
      have HKEEP := Lib.hid (hB.out.keep (chg_box wr q) (fun _ _ f => f))
      have hbw := Lib.hid (hb.out.alloc hsb (.cells #[.int .i64 q.1, .int .i64 q.2.1, .string (bs q.2.2)] 33))
      have hi1 : (0 : Int) ≤ (j : Int) := by omega
      have hi2 : (j : Int) < (n : Int) := by omega
      have hFs := Lib.hid hB.out.low
      clear hcell hq hjl hqm hto hot hro hb hB hip hbl hsl
      obtain ⟨kind, N, p⟩ := q
      obtain ⟨hk, hN0, h3, h4⟩ := hqok
      simp only at *
      obtain ⟨N, rfl⟩ : ∃ M : Nat, N = M := ⟨N.toNat, by omega⟩
      rcases hk with rfl | rfl | rfl
      · obtain rfl := h4 (by decide)
        clear h3 h4
        have hex : U.over (ex1 (1, (N : Int), [])) = N := by simp [ex1, U.over_ks]
        rw [hex] at hNs
        have hR2 := Lib.hid (hR.out.cut HQ.out N hex)
        have hst := Lib.hid (invSt_step S l j ov _ (1, (N : Int), []) HQ.out hR.out.ov HQOK.out (by rw [HIP.out]; rfl))
        have hsm := Lib.hid (invSt_small S l j (1, (N : Int), []) HOV2.out HMK.out (by simp; omega) (by simp))
        clear hex hR
        go_wp2_with fail
        refine (add_any _ w1.heap.size F w1.heap.size _ u (1, (N : Int), []) HKEEP.out (by simp; omega) HQOK.out hsm.out).mono ?_
        rintro e w2 ⟨rfl, F2, v2, hb2, hF2, hc2⟩
        rw [hst.out] at hb2
        have g1 : w2.cell? ⟨wr.heap.size, 1, none⟩ = some (.int .i64 N) := by
          rw [hc2.cell (a := ⟨wr.heap.size, 1, none⟩) (by simp) (fun hf => Nat.lt_irrefl _ (hFs.out _ hf).2)]
          exact World.cell?_alloc_mark wr _ _ (0, 0) 1
        have HB2 := Lib.hid hb2
        have HL2 := Lib.hid (hbw.out.trans (hc2.below hbw.out.size (fun i hi => (HKEEP.out.low i hi).1)))
        clear hb2 hF2 hc2 HKEEP hst hsm
        go_wp2
        go_roundw
        case rel => exact ⟨j + 1, ov + N, t.extract N t.size, F2, v2, by omega, by go_num, by go_num, hR2, by simp; omega, HB2, HL2⟩
        case measure => simp [intOf]; omega
      · obtain rfl := h4 (by decide)
        clear h3 h4
        have hex : U.over (ex1 (2, (N : Int), [])) = N := by simp [ex1, U.over_cs]
        rw [hex] at hNs
        have hR2 := Lib.hid (hR.out.cut HQ.out N hex)
        have hfr := Lib.hid (hR.out.front N)
        obtain ⟨p, hp⟩ : ∃ p, p = (S.drop ov).take N := ⟨_, rfl⟩
        rw [← hp] at hfr
        have hpl : p.length ≤ 20000 := by rw [hp]; simp; omega
        have hrok : okP (3, 0, p) := ⟨.inr (.inr rfl), Int.le_refl _, fun _ => rfl, fun h => absurd rfl h⟩
        have hst := Lib.hid (invSt_step S l j ov _ (3, 0, p) HQ.out hR.out.ov hrok (by rw [HIP.out, hp]; simp [ex1]))
        have hsm := Lib.hid (invSt_small S l j (3, 0, p) HOV2.out HMK.out (by simp) (by simp; omega))
        have HROK := Lib.hid hrok
        have HP2 := Lib.hid hp
        clear hex hR hp hrok
        go_wp2_with fail
        rw [hfr.out]
        refine (add_any _ w1.heap.size F w1.heap.size _ u (3, 0, p) HKEEP.out (by simp; omega) HROK.out hsm.out).mono ?_
        rintro e w2 ⟨rfl, F2, v2, hb2, hF2, hc2⟩
        rw [hst.out] at hb2
        have g1 : w2.cell? ⟨wr.heap.size, 1, none⟩ = some (.int .i64 N) := by
          rw [hc2.cell (a := ⟨wr.heap.size, 1, none⟩) (by simp) (fun hf => Nat.lt_irrefl _ (hFs.out _ hf).2)]
          exact World.cell?_alloc_mark wr _ _ (0, 0) 1
        have HB2 := Lib.hid hb2
        have HL2 := Lib.hid (hbw.out.trans (hc2.below hbw.out.size (fun i hi => (HKEEP.out.low i hi).1)))
        clear hb2 hF2 hc2 HKEEP hst hsm
        go_wp2
        go_roundw
        case rel => exact ⟨j + 1, ov + N, t.extract N t.size, F2, v2, by omega, by go_num, by go_num, hR2, by simp; omega, HB2, HL2⟩
        case measure => simp [intOf]; omega
      · have h3' := h3 rfl
        obtain rfl : N = 0 := by omega
        clear h3 h4 h3'
        have hex : U.over (ex1 (3, ((0 : Nat) : Int), p)) = 0 := by simp [ex1, U.over_ps]
        have hR2 := Lib.hid (hR.out.stay HQ.out hex)
        have hrok : okP (2, (p.length : Int), []) := ⟨.inr (.inl rfl), by simp, fun h => by simp at h, fun _ => rfl⟩
        have hst := Lib.hid (invSt_step S l j ov _ (2, (p.length : Int), []) HQ.out hR.out.ov hrok (by rw [HIP.out]; simp [ex1]))
        have hsm := Lib.hid (invSt_small S l j (2, (p.length : Int), []) HOV2.out HMK.out (by simp; omega) (by simp))
        have HROK := Lib.hid hrok
        have hps := Lib.hid (bs_size p)
        clear hex hR hrok
        go_wp2_with fail
        rw [hps.out]
        refine (add_any _ w1.heap.size F w1.heap.size _ u (2, (p.length : Int), []) HKEEP.out (by simp; omega) HROK.out hsm.out).mono ?_
        rintro e w2 ⟨rfl, F2, v2, hb2, hF2, hc2⟩
        rw [hst.out] at hb2
        have HB2 := Lib.hid hb2
        have HL2 := Lib.hid (hbw.out.trans (hc2.below hbw.out.size (fun i hi => (HKEEP.out.low i hi).1)))
        clear hb2 hF2 hc2 HKEEP hst hsm
        go_wp2
        go_roundw
        case rel => exact ⟨j + 1, ov, t, F2, v2, by omega, by go_num, rfl, hR2, hts, HB2, HL2⟩
        case measure => simp [intOf]; omega
    · obtain rfl : j = n := by omega
      have hT : l.take j = l := by rw [HN.out, List.take_length]
      unfold invSt at hB
      rw [hT] at hB
      have hsl := st_len (inv (ex l) S)
      have hib := inv_bound (ex l) S
      have hsz := hb.out.size
      have := HOV2.out
      have := HMK.out
      go_wp2_with fail
      refine (done_any wr w1.heap.size F w1.heap.size _ u hB.out hsz (by omega) (by omega)).mono ?_
      rintro e w2 ⟨⟨vo, vc, rfl, hown⟩, hc2⟩
      obtain ⟨mo, mc, hv, hp, -⟩ := PR.own hown rfl HWF.out
      have HO := Lib.hid hp
      have HV := Lib.hid hv
      have HL2 := Lib.hid (HB1.out.trans ((hb.out.trans (hc2.below hsz (fun i hi => (hB.out.low i hi).1))).mono hz1))
      clear hown hc2 hp hv
      rw [HV.out]
      go_wp2
      go_ret2
      exact ⟨mo, mc, rfl, HO.out, HL2.out⟩

theorem Invert_no (s : ByteArray) (ad : Option Addr) (cap : Nat) (l : List Part) (w : World) (h : PR w ad cap l) (hl : apErr s.data.toList l ≠ 0) :
    Calls Try.prog 13 #[.string s, .slice ad l.length cap] w fun e w' => e = .returned (.tuple #[.slice none 0 0, .int .i64 (apErr s.data.toList l)]) ∧ Below w.heap.size w w' := by
  have H := Lib.hid (Apply_no s ad cap l w h hl)
  obtain ⟨c, hc⟩ : ∃ c, c = apErr s.data.toList l := ⟨_, rfl⟩
  rw [← hc] at H hl ⊢
  clear h hc
  have hc3 : decide (c = 0) = false := decide_eq_false hl
  have hc4 : (c == 0) = false := by simpa using hc3
  have hc5 : (c != 0) = true := by simpa using hc3
  clear hl
  go_enter Try.func13, Try.ntmps13
  go_wp2_with fail
  refine H.out.mono ?_
  rintro e w1 ⟨rfl, hb1⟩
  have HB1 := Lib.hid hb1
  clear hb1 H
  go_wp2
  go_ret2
  exact ⟨rfl, HB1.out⟩
end Go.Proofs.Ytacmgnidnonjhaa
