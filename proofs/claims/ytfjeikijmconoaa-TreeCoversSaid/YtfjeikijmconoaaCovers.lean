/-
  The contract of covers. Conditions: the tokens lie in memory, at most 20000.
-/
import Derived.Test.YtfjeikijmconoaaCoverMem
import Derived.Deep.DeepCutAuto
namespace Go.Proofs.Ytfjeikijmconoaa
open Go.RowKit Gx
set_option maxRecDepth 100000

set_option maxHeartbeats 8000000 in
theorem covers_any (S : ByteArray) (X : TS) (tb tc : Nat) (hT : X.T.length ≤ 20000) (htc : X.T.length ≤ tc) (nd : Nd) (hcv : Covers X nd) :
    ∀ (w : World) (sl : Value), TokAt w (some ⟨tb, 0, none⟩) X.T → 0 < X.T.length → KidsAt w (fun _ => True) nd.kids sl →
      Calls Try.prog 16 #[.string S, .slice (some ⟨tb, 0, none⟩) X.T.length tc, .agg #[.int .i64 nd.k, .int .i64 nd.a, .int .i64 nd.b, sl]] w (TruePost w) := by
  induction hcv with
  | mk kd a b kids hab hb h hk ih =>
    intro w sl htk hT0 hka
    have hcv : Covers X (.mk kd a b kids) := .mk kd a b kids hab hb h hk
    have hkn : ∀ m ∈ kids, Covers X m := hk
    clear h hk
    show Calls _ _ #[_, _, .agg #[.int .i64 kd, .int .i64 a, .int .i64 b, sl]] w _
    obtain ⟨rows, hkr⟩ := KidsAt.rows hka
    change KRow w kids sl rows at hkr
    change KidsAt w (fun _ => True) kids sl at hka
    have hlen := hcv.len
    have hrl := hkr.length
    have HST := Lib.hid hcv.steps
    have HKR := Lib.hid hkr
    have HKA := Lib.hid hka
    have HIH := Lib.hid ih
    have HTK := Lib.hid htk
    obtain ⟨so, sc, rfl⟩ := hka.form
    obtain ⟨TL, hTL⟩ : ∃ TL, X.T.length = TL := ⟨_, rfl⟩
    obtain ⟨n, hn⟩ : ∃ n, kids.length = n := ⟨_, rfl⟩
    rw [hTL] at hT htc hT0 hb hlen ⊢
    rw [hn] at hrl hlen ⊢
    have HN := Lib.hid hn
    have HTL := Lib.hid hTL
    have HRL := Lib.hid hrl
    have HC1 : Hid (∀ wz, Below w.heap.size w wz → Calls Try.prog 21 #[.slice so n sc] wz (ClonePost wz rows)) := Lib.hid fun wz hz => by
      have := clone_any wz kids _ rows (HKR.out.below hz) (by omega)
      rwa [hn] at this
    have HONE := Lib.hid hkr.one
    have HFRM : Hid (∀ p ∈ rows, ∃ ko kn kc, p.2 = Value.slice ko kn kc) := Lib.hid fun p hp => by
      obtain ⟨vo, vc, hv⟩ := (hkr.mem p hp).form
      exact ⟨vo, _, vc, hv⟩
    have hrl2 : rows.length ≤ 20000 := by omega
    clear hkr hka htk ih hkn hcv hn hTL hrl
    have hbox : (w.alloc (.cells #[.int .i64 kd, .int .i64 a, .int .i64 b, .slice so n sc] 34)).heap[w.heap.size]? = some (.cells #[.int .i64 kd, .int .i64 a, .int .i64 b, .slice so n sc] 34) := heap_alloc_last w _
    have hbel : Below w.heap.size w (w.alloc (.cells #[.int .i64 kd, .int .i64 a, .int .i64 b, .slice so n sc] 34)) := (Below.refl w.heap.size w).alloc (Nat.le_refl _) _
    have HBOX := Lib.hid hbox
    have HBEL := Lib.hid hbel
    clear hbox hbel
    go_enter Try.func16, Try.ntmps16
    go_upto_region 2 with fail
    generalize hw1 : w.alloc (.cells #[.int .i64 kd, .int .i64 a, .int .i64 b, .slice so n sc] 34) = w1 at HBOX HBEL ⊢
    clear hw1
    go_cut [25, 26, 27] (fun v25 v26 v27 wx => Hid (CoverRow w kd a b (.slice so n sc) kids v25 wx) ∧ v26 = .int .i64 (n + 1 : Nat) ∧ v27 = .int .i64 0)
    case first =>
      have HBELd : Hid (Below w.heap.size w w1.drew) := Lib.hid (HBEL.out.trans (Gx.drewN_below w1 1 _))
      have HBOXd : Hid (w1.drew.heap[w.heap.size]? = some (.cells #[.int .i64 kd, .int .i64 a, .int .i64 b, .slice so n sc] 34)) := Lib.hid HBOX.out
      have HBELe : Hid (Below w.heap.size w (w1.drew.alloc (.cells #[.int .i64 0, .int .i64 b, .int .i64 b, .slice none 0 0] 34))) := Lib.hid (HBELd.out.alloc HBELd.out.size _)
      have HBOXe : Hid ((w1.drew.alloc (.cells #[.int .i64 0, .int .i64 b, .int .i64 b, .slice none 0 0] 34)).heap[w.heap.size]? = some (.cells #[.int .i64 kd, .int .i64 a, .int .i64 b, .slice so n sc] 34)) := Lib.hid ((heap_alloc_old w1.drew _ (Array.getElem?_eq_some_iff.1 HBOXd.out).1).trans HBOXd.out)
      obtain ⟨z2, z3⟩ := box_cells HBOXd.out
      have hs0 : (w1.drew.alloc (.cells #[.int .i64 0, .int .i64 b, .int .i64 b, .slice none 0 0] 34)).cell? ⟨w.heap.size, 2, none⟩ = some (.int .i64 b) ∧ (w1.drew.alloc (.cells #[.int .i64 0, .int .i64 b, .int .i64 b, .slice none 0 0] 34)).cell? ⟨w.heap.size, 3, none⟩ = some (.slice so n sc) := box_cells HBOXe.out
      go_region_held3 (fun w' => w'.cell? ⟨w.heap.size, 2, none⟩ = some (.int .i64 b) ∧ w'.cell? ⟨w.heap.size, 3, none⟩ = some (.slice so n sc)) (first | exact ⟨z2, z3⟩ | exact hs0 | exact hs1 | exact hs2 | go_keep)
        (first
          | (refine step_end rfl (.tmp 18) (.tmp 24) rfl (PreEnd.first HBELd.out HBOXd.out HC3.out HC4.out) HONE.out HFRM.out rfl rfl hrl2 ?_; intro g cap w4 hcr; have hs2 := hcr.keep; have HCR := Lib.hid hcr; clear hcr)
          | (refine step_end rfl (.tmp 18) (.tmp 24) rfl (PreEnd.second HBELd.out HBOXd.out HC3.out HC4.out) HONE.out HFRM.out rfl rfl hrl2 ?_; intro g cap w4 hcr; have hs2 := hcr.keep; have HCR := Lib.hid hcr; clear hcr)
          | (go_simp; refine (HC1.out _ HBELd.out).mono ?_; rintro e w9 ⟨vo, vc, rfl, hb9, ho9⟩; have hs1 := box_kept HBOXd.out hb9; have HC3 := Lib.hid hb9; have HC4 := Lib.hid ho9; clear hb9 ho9)
          | (go_simp; refine (HC1.out _ HBELe.out).mono ?_; rintro e w9 ⟨vo, vc, rfl, hb9, ho9⟩; have hs1 := box_kept HBOXe.out hb9; have HC3 := Lib.hid hb9; have HC4 := Lib.hid ho9; clear hb9 ho9))
      all_goals
        go_wp2_with fail
        go_meet
        rw [HKR.out.fst] at HCR
        have hrl := HRL.out
        exact ⟨by rw [hrl] at HCR ⊢; exact HCR, by congr 1; omega, rfl⟩
    case rest =>
      obtain ⟨hc, rfl, rfl⟩ := hcut
      clear HBOX HBEL HC1 HKR HONE HFRM hrl2 HRL
      obtain ⟨g, cap, h25, hbel, hg, hbx, hel⟩ := hc.out
      subst h25
      rw [HN.out]
      clear hc
      have HEL := Lib.hid hel
      have HBEL := Lib.hid hbel
      have HBX := Lib.hid hbx
      have htk : TokAt wc (some ⟨tb, 0, none⟩) X.T := HTK.out.keep hbel
      obtain ⟨htb, htc2⟩ : tb < wc.heap.size ∧ ∀ k v, (tokCells X.T)[k]? = some v → wc.cell? ⟨tb, k, none⟩ = some v := by
        rcases htk with h | ⟨b', h1, h2, h3⟩
        · exfalso
          have := HTL.out
          rw [h] at this
          simp at this
          omega
        · obtain rfl : tb = b' := by simpa using h1
          exact ⟨h2, h3⟩
      have HTC := Lib.hid htc2
      have hws : w.heap.size < wc.heap.size := (Array.getElem?_eq_some_iff.1 hbx).1
      clear hel hbel hbx htk htc2
      obtain ⟨m, hm⟩ : ∃ m, n + 1 = m := ⟨_, rfl⟩
      rw [hm]
      have hat0 : atOf a b kids 0 = a := rfl
      go_wp2_with fail
      go_loopw [7, 27] (fun v7 v27 wr => ∃ j, j ≤ m ∧ v27 = .int .i64 j ∧ v7 = .int .i64 (atOf a b kids j) ∧ Below wc.heap.size wc wr) (fun _ v27 _ => m - (intOf v27).toNat)
      case atStart => exact ⟨0, Nat.zero_le _, rfl, rfl, Below.refl _ _⟩
      case round =>
        obtain ⟨j, hj, rfl, rfl, hbr⟩ := hrel
        have hbs := hbr.size
        by_cases hlt : j < m
        · obtain ⟨nj, hnj⟩ : ∃ nj, (ends kids b)[j]? = some nj := ⟨_, List.getElem?_eq_getElem (by rw [ends, List.length_append, HN.out]; simp; omega)⟩
          obtain ⟨s1, s2, s3, s4⟩ := HST.out j nj hnj
          obtain ⟨e0, e1, e2, ko, kn, kc, e3⟩ := HEL.out j nj hnj
          have hnx := ends_get hnj a
          rw [HN.out] at s4
          have HS4 := Lib.hid s4
          have HNX := Lib.hid hnx
          obtain ⟨A, hA⟩ : ∃ A, atOf a b kids j = A := ⟨_, rfl⟩
          obtain ⟨ka, hka⟩ : ∃ ka, nj.a = ka := ⟨_, rfl⟩
          obtain ⟨kb, hkb⟩ : ∃ kb, nj.b = kb := ⟨_, rfl⟩
          obtain ⟨kk, hkk⟩ : ∃ kk, nj.k = kk := ⟨_, rfl⟩
          rw [hA] at s1 HS4 ⊢
          rw [hka] at s1 s2 e1 HS4
          rw [hkb] at s2 s3 e2 HNX
          rw [hkk] at e0
          clear hnx s4 hnj hA hka hkb hkk
          have hbrc : ∀ B k v, B < wc.heap.size → wc.cell? ⟨B, k, none⟩ = some v → wr.cell? ⟨B, k, none⟩ = some v := fun B k v h1 h2 => (hbr.cell (p := ⟨B, k, none⟩) h1).trans h2
          have c0 := hbrc _ _ _ hg e0
          have c1 := hbrc _ _ _ hg e1
          have c2 := hbrc _ _ _ hg e2
          have c3 := hbrc _ _ _ hg e3
          obtain ⟨-, -, z2, z3, -⟩ := node_cells HBX.out
          have y2 := hbrc _ _ _ hws z2
          have y3 := hbrc _ _ _ hws z3
          obtain ⟨x, hx⟩ : ∃ x, x = wr.alloc (.cells #[.int .i64 kk, .int .i64 ka, .int .i64 kb, .slice ko kn kc] 34) := ⟨_, rfl⟩
          have d2 : (wr.alloc (.cells #[.int .i64 kk, .int .i64 ka, .int .i64 kb, .slice ko kn kc] 34)).cell? ⟨w.heap.size, 2, none⟩ = _ := (World.cell?_alloc_lt _ _ _ (show w.heap.size < _ by omega)).trans y2
          have d3 : (wr.alloc (.cells #[.int .i64 kk, .int .i64 ka, .int .i64 kb, .slice ko kn kc] 34)).cell? ⟨w.heap.size, 3, none⟩ = _ := (World.cell?_alloc_lt _ _ _ (show w.heap.size < _ by omega)).trans y3
          obtain ⟨-, f1, f2, -, -⟩ := node_cells (heap_alloc_last wr (.cells #[.int .i64 kk, .int .i64 ka, .int .i64 kb, .slice ko kn kc] 34))
          have hbn : Below wc.heap.size wc (wr.alloc (.cells #[.int .i64 kk, .int .i64 ka, .int .i64 kb, .slice ko kn kc] 34)) := hbr.alloc hbs _
          have HBN := Lib.hid hbn
          clear e0 e1 e2 e3 z2 z3 y2 y3 hbrc hbn
          have i1 : (0 : Int) ≤ (j : Int) := by omega
          have i2 : (j : Int) < (m : Int) := by omega
          have t1 : decide ((ka : Int) < (A : Int)) = false := decide_eq_false (by omega)
          have t1n : decide (ka < A) = false := decide_eq_false (by omega)
          have t2 : decide ((kb : Int) < (ka : Int)) = false := decide_eq_false (by omega)
          have t2n : decide (kb < ka) = false := decide_eq_false (by omega)
          have t3 : decide ((b : Int) < (kb : Int)) = false := decide_eq_false (by omega)
          have t3n : decide (b < kb) = false := decide_eq_false (by omega)
          have t4 : decide ((TL : Int) < (b : Int)) = false := decide_eq_false (by omega)
          have t4n : decide (TL < b) = false := decide_eq_false (by omega)
          have g1 : (0 : Int) ≤ (A : Int) := by omega
          have g2 : (A : Int) ≤ (ka : Int) := by omega
          have g3 : (ka : Int) ≤ (tc : Int) := by omega
          by_cases hAk : A = ka
          · subst hAk
            by_cases hAt : tc = A
            · subst hAt
              go_wp2_with fail
              obtain ⟨wo, rfl⟩ : ∃ wo : World, wo = wr := ⟨_, rfl⟩
              have hkx : wo.heap.size < (wo.alloc (.cells #[.int .i64 kk, .int .i64 tc, .int .i64 kb, .slice ko kn kc] 34)).heap.size := by rw [World.size_alloc]; omega
              clear c0 c1 c2 c3 hx x
              generalize wo.alloc (.cells #[.int .i64 kk, .int .i64 tc, .int .i64 kb, .slice ko kn kc] 34) = wx at d2 d3 f1 f2 HBN hkx ⊢
              go_loopw [62] (fun v62 wr => v62 = .int .i64 0 ∧ Below wx.heap.size wx wr) (fun _ _ => 0)
              case atStart => exact ⟨rfl, Below.refl _ _⟩
              case round =>
                obtain ⟨rfl, hb2⟩ := hrel
                have y1 := (hb2.cell (p := ⟨wo.heap.size, 2, none⟩) hkx).trans f2
                go_wp2_with fail
                exact ⟨⟨j + 1, by omega, by go_num, by rw [HNX.out], HBN.out.trans (hb2.mono HBN.out.size)⟩, by simp [intOf]; omega⟩
            · have q1 : ¬ A = tc := fun h => hAt h.symm
              go_wp2_with fail
              obtain ⟨wo, rfl⟩ : ∃ wo : World, wo = wr := ⟨_, rfl⟩
              have hkx : wo.heap.size < (wo.alloc (.cells #[.int .i64 kk, .int .i64 A, .int .i64 kb, .slice ko kn kc] 34)).heap.size := by rw [World.size_alloc]; omega
              clear c0 c1 c2 c3 hx x
              generalize wo.alloc (.cells #[.int .i64 kk, .int .i64 A, .int .i64 kb, .slice ko kn kc] 34) = wx at d2 d3 f1 f2 HBN hkx ⊢
              go_loopw [62] (fun v62 wr => v62 = .int .i64 0 ∧ Below wx.heap.size wx wr) (fun _ _ => 0)
              case atStart => exact ⟨rfl, Below.refl _ _⟩
              case round =>
                obtain ⟨rfl, hb2⟩ := hrel
                have y1 := (hb2.cell (p := ⟨wo.heap.size, 2, none⟩) hkx).trans f2
                go_wp2_with fail
                exact ⟨⟨j + 1, by omega, by go_num, by rw [HNX.out], HBN.out.trans (hb2.mono HBN.out.size)⟩, by simp [intOf]; omega⟩
          · have q1 : ¬ A = tc := by omega
            have q2 : ¬ (A : Int) = (tc : Int) := by omega
            have q3 : A < tc := by omega
            go_wp2_with fail
            obtain ⟨wo, rfl⟩ : ∃ wo : World, wo = wr := ⟨_, rfl⟩
            clear c0 c1 c2 c3 hx x
            have hkx : wo.heap.size < (wo.alloc (.cells #[.int .i64 kk, .int .i64 ka, .int .i64 kb, .slice ko kn kc] 34)).heap.size := by rw [World.size_alloc]; omega
            generalize wo.alloc (.cells #[.int .i64 kk, .int .i64 ka, .int .i64 kb, .slice ko kn kc] 34) = wx at d2 d3 f1 f2 HBN hkx ⊢
            have hws2 : w.heap.size < wx.heap.size := Nat.lt_of_lt_of_le hws HBN.out.size
            go_loopw [62] (fun v62 wr => ∃ r : Nat, r ≤ ka - A ∧ v62 = .int .i64 r ∧ Below wx.heap.size wx wr) (fun v62 _ => (ka - A) - (intOf v62).toNat)
            case atStart => exact ⟨0, Nat.zero_le _, rfl, Below.refl _ _⟩
            case round =>
              obtain ⟨r, hr, rfl, hb2⟩ := hrel
              have hb2s := hb2.size
              by_cases hlr : r < ka - A
              · have hAT : A + r < X.T.length := by have := HTL.out; omega
                have hg := tokCells_get X.T (A + r) hAT
                obtain ⟨K, hK⟩ : ∃ K, K = (X.T[A + r]).1 := ⟨_, rfl⟩
                obtain ⟨P, hP⟩ : ∃ P, P = (X.T[A + r]).2.1 := ⟨_, rfl⟩
                obtain ⟨E, hE⟩ : ∃ E, E = (X.T[A + r]).2.2 := ⟨_, rfl⟩
                have hkd : X.kind (A + r) = K := by rw [hK]; unfold TS.kind; rw [List.getElem?_eq_getElem hAT]
                have hgap : 0 < n → K ≠ 4 ∧ K ≠ 5 ∧ K ≠ 7 := fun h0 => by rw [← hkd]; exact HS4.out h0 (A + r) (by omega) (by omega)
                rw [← hK, ← hP, ← hE] at hg
                have hbrc : ∀ B k v, B < wc.heap.size → wc.cell? ⟨B, k, none⟩ = some v → wr.cell? ⟨B, k, none⟩ = some v := fun B k v h1 h2 => (hb2.cell (p := ⟨B, k, none⟩) (Nat.lt_of_lt_of_le h1 HBN.out.size)).trans ((HBN.out.cell (p := ⟨B, k, none⟩) h1).trans h2)
                have c0 := hbrc _ _ _ htb (HTC.out _ _ hg.1)
                have c1 := hbrc _ _ _ htb (HTC.out _ _ hg.2.1)
                have c2 := hbrc _ _ _ htb (HTC.out _ _ hg.2.2)
                rw [show (A + r) * 3 = A * 3 + r * 3 by omega] at c0 c1 c2
                have y3 := (hb2.cell (p := ⟨w.heap.size, 3, none⟩) hws2).trans d3
                have u3 : (wr.alloc (.cells #[.int .i64 K, .int .i64 P, .int .i64 E] 28)).cell? ⟨w.heap.size, 3, none⟩ = _ := (World.cell?_alloc_lt _ _ _ (show w.heap.size < _ by omega)).trans y3
                have v0 : (wr.alloc (.cells #[.int .i64 K, .int .i64 P, .int .i64 E] 28)).cell? ⟨wr.heap.size, 0, none⟩ = some (.int .i64 K) := by
                  rw [World.cell?_alloc_mark]; rfl
                have HBR := Lib.hid (hb2.alloc hb2s (.cells #[.int .i64 K, .int .i64 P, .int .i64 E] 28))
                have j1 : (0 : Int) ≤ (r : Int) := by omega
                have j2 : (r : Int) < ((ka - A : Nat) : Int) := by omega
                have j3 : (r : Int) < (ka : Int) - (A : Int) := by omega
                clear hg hK hP hE hkd hbrc y3
                by_cases h0 : n = 0
                · have z0 : decide ((0 : Int) < (n : Int)) = false := decide_eq_false (by omega)
                  have z0n : decide (0 < n) = false := decide_eq_false (by omega)
                  go_wp2_with fail
                  exact ⟨⟨r + 1, by omega, by go_num, HBR.out⟩, by simp [intOf]; omega⟩
                · obtain ⟨p4, p5, p7⟩ := hgap (by omega)
                  have z0 : decide ((0 : Int) < (n : Int)) = true := decide_eq_true (by omega)
                  have z0n : decide (0 < n) = true := decide_eq_true (by omega)
                  have z4 : (K == 4) = false := by simpa using p4
                  have z5 : (K == 5) = false := by simpa using p5
                  have z7 : (K == 7) = false := by simpa using p7
                  go_wp2_with fail
                  exact ⟨⟨r + 1, by omega, by go_num, HBR.out⟩, by simp [intOf]; omega⟩
              · obtain rfl : r = ka - A := by omega
                have y1 := (hb2.cell (p := ⟨wo.heap.size, 2, none⟩) hkx).trans f2
                go_wp2_with fail
                exact ⟨⟨j + 1, by omega, by go_num, by rw [HNX.out], HBN.out.trans (hb2.mono HBN.out.size)⟩, by simp [intOf]; omega⟩
        · obtain rfl : j = m := by omega
          have y3 := (hbr.cell (p := ⟨w.heap.size, 3, none⟩) hws).trans (node_cells HBX.out).2.2.2.1
          have hmeas : ∀ x y : Nat, True := fun _ _ => trivial
          have HBR := Lib.hid (HBEL.out.trans (hbr.mono HBEL.out.size))
          obtain ⟨wo, rfl⟩ : ∃ wo : World, wo = wr := ⟨_, rfl⟩
          clear HEL HBX HTC HBEL hbr hbs hg htb hws
          go_wp2_with fail
          go_loopw [92] (fun v92 wr => ∃ r : Nat, r ≤ n ∧ v92 = .int .i64 r ∧ Below w.heap.size w wr) (fun v92 _ => n - (intOf v92).toNat)
          case atStart => exact ⟨0, Nat.zero_le _, rfl, HBR.out⟩
          case round =>
            obtain ⟨r, hr, rfl, hb2⟩ := hrel
            have hb2s := hb2.size
            by_cases hlr : r < n
            · obtain ⟨ni, hni⟩ : ∃ ni, kids[r]? = some ni := ⟨_, List.getElem?_eq_getElem (by rw [HN.out]; exact hlr)⟩
              have hka : KidsAt wr (fun _ => True) kids (.slice so kids.length sc) := ((HKA.out.weak (C := fun b => b < w.heap.size) (fun b _ hlt => hlt)).grow (row := some w.heap.size) ⟨hb2.os, hb2.tape, hb2.output, hb2.size, fun k hk _ => hb2.block k hk⟩ (fun b e hb2 => by have := Option.some.inj e; omega)).weak (fun _ _ _ => trivial)
              obtain ⟨blk, rfl, ksl, c0, c1, c2, c3, hkk⟩ : ∃ blk, so = some ⟨blk, 0, none⟩ ∧ ∃ ksl, wr.cell? ⟨blk, r * 4, none⟩ = some (.int .i64 ni.k) ∧ wr.cell? ⟨blk, r * 4 + 1, none⟩ = some (.int .i64 ni.a) ∧ wr.cell? ⟨blk, r * 4 + 2, none⟩ = some (.int .i64 ni.b) ∧ wr.cell? ⟨blk, r * 4 + 3, none⟩ = some ksl ∧ KidsAt wr (fun _ => True) ni.kids ksl := by
                cases hka with
                | nil => simp at hni
                | row _ sf blk cap hne hB hlt hc hk => exact ⟨blk, rfl, sf r, (hc r ni hni).1, (hc r ni hni).2.1, (hc r ni hni).2.2.1, (hc r ni hni).2.2.2, hk r ni hni⟩
              clear hka
              obtain ⟨ko, kc, rfl⟩ := hkk.form
              have hIH := HIH.out ni (List.mem_of_getElem? hni) (wr.alloc (.cells #[.int .i64 ni.k, .int .i64 ni.a, .int .i64 ni.b, .slice ko ni.kids.length kc] 34)) _ (HTK.out.keep (hb2.alloc hb2s _)) (by rw [HTL.out]; exact hT0) (hkk.grow (grown_alloc _ _ none) (fun b e => by simp at e))
              rw [HTL.out] at hIH
              generalize ni.k = nk at c0 hIH
              generalize ni.a = na at c1 hIH
              generalize ni.b = nb at c2 hIH
              generalize ni.kids.length = nl at c3 hIH
              have HI := Lib.hid hIH
              have HB2 := Lib.hid (hb2.alloc hb2s (.cells #[.int .i64 nk, .int .i64 na, .int .i64 nb, .slice ko nl kc] 34))
              clear hIH hkk hni
              have j1 : (0 : Int) ≤ (r : Int) := by omega
              have j2 : (r : Int) < (n : Int) := by omega
              go_wp2_with fail
              refine HI.out.mono ?_
              rintro e w9 ⟨rfl, hb9⟩
              have HB9 := Lib.hid (HB2.out.trans (hb9.mono HB2.out.size))
              clear hb9
              go_wp2_with fail
              exact ⟨⟨r + 1, by omega, by go_num, HB9.out⟩, by simp [intOf]; omega⟩
            · obtain rfl : r = n := by omega
              go_wp2_with fail
              try go_ret
              exact ⟨rfl, hb2⟩
end Go.Proofs.Ytfjeikijmconoaa
