/-
  The contract of the tree reader's many, for a kid that is an entry, and for one that is a value. Conditions: as XTree2; the kid's contract; at most 20000 tokens.
-/
import Derived.Test.YtfjeikijmconoaaTreeKids
import Derived.Deep.RegionLaw
import Derived.Deep.DeepCutAuto
namespace Go.Proofs.Ytfjeikijmconoaa
open Go.RowKit Gx
set_option maxRecDepth 100000

/-- the kid's contract, in whatever world has grown from this one -/
def KidOk (R : Nat) (ta : Option Addr) (tc : Nat) (S : ByteArray) (X : TS) (w0 : World) (kf : Nat) (cap : Array Value) (kid : PS → PS × Nd) : Prop :=
  ∀ (s : PS) (w : World), w0.grownBy w (some R) → RS w R ta tc S X s → s.bad = 0 → s.i ≤ X.T.length → Calls Try.prog kf cap w (NP R ta tc S X (kid s) w)
/-- what a round leaves: one kid more -/
def KidsMore (w : World) (R : Nat) (ta : Option Addr) (tc : Nat) (S : ByteArray) (X : TS) (k : Int) (a : Nat) (u : PS) (rows : List (Nd × Value)) (nd : Nd) (wx : World) : Prop := ∃ sl v2, MR w R ta tc S X k a u (rows ++ [(nd, sl)]) v2 wx
/-- the kid has come -/
def KidCame (w : World) (R : Nat) (ta : Option Addr) (tc : Nat) (S : ByteArray) (X : TS) (k : Int) (a : Nat) (u : PS) (rows : List (Nd × Value)) (v : Value) (nd : Nd) (sl : Value) (w3 : World) : Prop :=
  MR w R ta tc S X k a u rows v w3 ∧ KidsAt w3 (fun b => w.heap.size + 2 ≤ b ∧ v.ownBlock ≠ some b) nd.kids sl
theorem kid_came {w : World} {R : Nat} {ta : Option Addr} {tc : Nat} {S : ByteArray} {X : TS} {k : Int} {a : Nat} {u s3 : PS} {rows : List (Nd × Value)} {v : Value} {kid : PS → PS × Nd} {nd : Nd} {kf : Nat} {cap : Array Value} {w2 : World} (hR : R < w.heap.size) (h : MR w R ta tc S X k a u rows v w2)
    (hk : Calls Try.prog kf cap w2 (NP R ta tc S X (kid u) w2)) (h1 : (kid u).1 = s3) (h2 : (kid u).2 = nd) :
    Calls Try.prog kf cap w2 fun e w3 => ∃ so sn sc, e = .returned (.agg #[.int .i64 nd.k, .int .i64 nd.a, .int .i64 nd.b, .slice so sn sc]) ∧ Hid (KidCame w R ta tc S X k a s3 rows v nd (.slice so sn sc) w3) ∧ w3.cell? ⟨w.heap.size + 1, 3, none⟩ = some v ∧ w3.frozen? ⟨w.heap.size + 1, 3, none⟩ = false ∧ w.heap.size + 1 < w3.heap.size := by
  subst h1
  subst h2
  refine hk.mono ?_
  rintro e w3 ⟨sl, rfl, hk3, hr3, hg3⟩
  obtain ⟨so, sc, rfl⟩ := hk3.form
  have hm := h.grow hR hr3 hg3
  obtain ⟨-, -, -, n3, nf⟩ := node_cells hm.nod
  have hv := h.kr.own.lt
  have hs := h.size
  exact ⟨so, _, sc, rfl, Lib.hid ⟨hm, hk3.weak fun b hb _ => ⟨by omega, fun e => by have := hv b e; omega⟩⟩, n3, nf 3, by have := hm.size; omega⟩

set_option maxHeartbeats 8000000 in
theorem many_entry (p2 p3 : Addr) (k : Int) (en : UInt8) (hen : en ≠ 0) (hen2 : en ≠ 44) (c : Nat) (kid : PS → PS × Nd) (R : Nat) (ta : Option Addr) (tc : Nat) (S : ByteArray) (X : TS) (hkf : Fine X c fun s => (kid s).1) (hc : c ≤ 30) (s : PS) (w : World) (h : RS w R ta tc S X s) (hT : X.T.length ≤ 20000) (hF : X.T.length + 2 ≤ X.F) (hF2 : X.F ≤ 100000)
    (hi : s.i < X.T.length) (hb0 : s.bad = 0) (hpos : ∀ j, j < X.T.length → X.pos j < X.l.length) (hk : KidOk R ta tc S X w 27 #[.pointer (some p2), .pointer (some p3)] kid) :
    Calls Try.prog 26 #[.pointer (some ⟨R, 0, none⟩), .int .i64 k, .int .u8 (en.toNat : Int), .func (.func 27) #[] #[.pointer (some p2), .pointer (some p3)]] w (NP R ta tc S X (manyN X k en kid s) w) := by
  have hRl := h.lt
  obtain ⟨ev, hev⟩ : ∃ ev : Int, ev = (en.toNat : Int) := ⟨_, rfl⟩
  rw [← hev]
  have HEV := Lib.hid hev
  have H0 := Lib.hid h
  have h1 := h.set2 (s.i + 1)
  rw [show ((s.i + 1 : Nat) : Int) = (s.i : Int) + 1 by omega] at h1
  have hsz : (w.setCell ⟨R, 2, none⟩ (.int .i64 ((s.i : Int) + 1))).heap.size = w.heap.size := by simp [World.setCell]
  have M0 : MR w R ta tc S X k s.i s.inc [] (.slice none 0 0) (((w.setCell ⟨R, 2, none⟩ (.int .i64 ((s.i : Int) + 1))).alloc (.cells #[.int .i64 0, .int .i64 0, .int .i64 0, .slice none 0 0] 34)).alloc (.cells #[.int .i64 k, .int .i64 s.i, .int .i64 0, .slice none 0 0] 34)) := by
    refine ⟨(h1.alloc _).alloc _, KR.nil _ _, ?_, ?_, ((grown_set w R 2 _).trans (grown_alloc _ _ _)).trans (grown_alloc _ _ _)⟩
    · exact (heap_alloc_old _ _ (by simp [hsz])).trans (by have := heap_alloc_last (w.setCell ⟨R, 2, none⟩ (.int .i64 ((s.i : Int) + 1))) (.cells #[.int .i64 0, .int .i64 0, .int .i64 0, .slice none 0 0] 34); rwa [hsz] at this)
    · have := heap_alloc_last ((w.setCell ⟨R, 2, none⟩ (.int .i64 ((s.i : Int) + 1))).alloc (.cells #[.int .i64 0, .int .i64 0, .int .i64 0, .slice none 0 0] 34)) (.cells #[.int .i64 k, .int .i64 s.i, .int .i64 0, .slice none 0 0] 34)
      rwa [World.size_alloc, hsz] at this
  have HM0 := Lib.hid M0
  obtain ⟨c0, c1, c2, c3, c4, fz⟩ := h.cells
  have hRn : ¬ R = w.heap.size := by omega
  have hRn2 : ¬ w.heap.size = R := by omega
  have hRn3 : ¬ R = w.heap.size + 1 := by omega
  have hRn4 : ¬ w.heap.size + 1 = R := by omega
  have HK := Lib.hid hk
  have HKF := Lib.hid hkf
  have HPOS := Lib.hid hpos
  have HEN := Lib.hid hen
  have HEN2 := Lib.hid hen2
  have HB0 := Lib.hid hb0
  clear h hk hev M0 h1 hsz hkf hpos hen hen2 hb0
  go_enter Try.func26, Try.ntmps26
  go_wp2_with fail
  clear c0 c1 c2 c3 c4 fz
  go_loopg [] (X.F) (fun g wx => ∃ (u : PS) (rows : List (Nd × Value)) (v : Value), Hid (MR w R ta tc S X k s.i u rows v wx) ∧ Hid (Fuel X en g u) ∧ Hid (u.bad = 0 → u.i ≤ X.T.length) ∧ u.i ≤ X.T.length + c ∧ rows.length + g ≤ X.F ∧ Hid (manyS X kid en X.F s.inc [] = manyS X kid en g u (rows.map Prod.fst)))
  case atStart =>
    have hsi : s.inc.i = s.i + 1 := rfl
    exact ⟨s.inc, [], .slice none 0 0, HM0, Lib.hid (.inl ⟨HB0.out, by omega⟩), Lib.hid (fun _ => by omega), by omega, by simp, Lib.hid rfl⟩
  case round =>
    obtain ⟨u, rows, v, HM, HFU, HUB, hui, hlen, HEQ⟩ := hrel
    clear HM0
    obtain ⟨u1, hu1⟩ : ∃ u1, u.skip X = u1 := ⟨_, rfl⟩
    obtain ⟨mv, hmv⟩ : ∃ mv : Int, ((u1.mark X).toNat : Int) = mv := ⟨_, rfl⟩
    have HMk : ∀ wz, RS wz R ta tc S X u → _ := fun wz hz => mark_of u1 mv R ta tc S X u wz hz hT (by omega) HPOS.out hu1 hmv
    replace HMk := Lib.hid (HMk wr HM.out.rs)
    have hpos1 := HFU.out.pos HUB.out
    have hui1 : u1.i ≤ 100000 := by
      have := skip_fine X u
      rw [hu1] at this
      rcases Nat.lt_or_ge X.T.length u.i with h | h
      · rw [this.2.2 (by omega)]; omega
      · have := this.2.1 h; omega
    have hub1 : u1.bad = u.bad := by rw [← hu1]; rfl
    by_cases hme : u1.mark X = en
    · have t1 : (mv != ev) = false := by
        have : mv = ev := by rw [← hmv, hme, HEV.out]
        simpa using this
      have hend : (manyS X kid en X.F s.inc []) = (u1, rows.map Prod.fst) := by rw [HEQ.out, manyS_end hpos1 (.inl (by rw [hu1]; exact hme)), hu1]
      have HMV := Lib.hid hmv
      clear hmv hme hu1 hub1 hpos1 HEQ HFU HUB
      go_wp2_with fail
      refine HMk.out.mono ?_
      rintro e w2 ⟨rfl, hr2, hg2⟩
      have hm2 := HM.out.grow hRl hr2 hg2
      obtain ⟨c0, c1, c2, c3, c4, fz⟩ := hm2.rs.cells
      obtain ⟨m0, m1, m2, m3, mf⟩ := node_cells hm2.nod
      have mf1 := mf 3
      have HM3 := Lib.hid hm2
      clear hm2 hr2 hg2 mf
      obtain ⟨vo, vc, hvf⟩ := HM3.out.kr.form
      subst hvf
      have mf2 := (node_cells HM3.out.nod).2.2.2.2 2
      obtain ⟨b0, b1, b2, b3, bf⟩ := node_cells HM3.out.res
      have bf0 := bf 0
      have bf1 := bf 1
      have bf2 := bf 2
      have bf3 := bf 3
      have HEND := Lib.hid hend
      clear bf hend HMk
      go_wp2_with fail
      have HM5 := Lib.hid (HM3.out.inc hRl)
      generalize w2.setCell ⟨R, 2, none⟩ (.int .i64 ((u1.i : Int) + 1)) = w5 at HM5 ⊢
      clear c0 c1 c2 c3 c4 fz m0 m1 m2 m3 mf1 mf2 b0 b1 b2 b3 bf0 bf1 bf2 bf3
      have R6 := Lib.hid (HM5.out.endAt (.int .i64 ((u1.i : Int) + 1))).1
      obtain ⟨h7, g7⟩ := store4 R6.out (.int .i64 k) (.int .i64 (s.i : Int)) (.int .i64 ((u1.i : Int) + 1)) (.slice vo rows.length vc)
      generalize (((((w5.setCell ⟨w.heap.size + 1, 2, none⟩ (.int .i64 ((u1.i : Int) + 1))).setCell ⟨w.heap.size, 0, none⟩ (.int .i64 k)).setCell ⟨w.heap.size, 1, none⟩ (.int .i64 (s.i : Int))).setCell ⟨w.heap.size, 2, none⟩ (.int .i64 ((u1.i : Int) + 1))).setCell ⟨w.heap.size, 3, none⟩ (.slice vo rows.length vc)) = w7 at h7 g7 ⊢
      obtain ⟨f1, f2, f3⟩ := MR.fin H0.out HM5.out _ g7
      obtain ⟨n0, n1, n2, n3, -⟩ := node_cells h7
      exact bodyPost_ret (v := .agg #[.int .i64 k, .int .i64 (s.i : Int), .int .i64 ((u1.i : Int) + 1), .slice vo rows.length vc]) (by simp [results, Try.results26, go_sem, n0, n1, n2, n3]) rfl
        (by unfold manyN; rw [HEND.out]; exact ⟨_, rfl, f1, f2, f3⟩)
    · have hne : ¬ mv = ev := by
        intro e
        apply hme
        have h1 : (u1.mark X).toNat = en.toNat := by have h2 := hmv.trans e; rw [HEV.out] at h2; exact_mod_cast h2
        exact UInt8.toNat_inj.1 h1
      have t1 : (mv != ev) = true := by simpa using hne
      by_cases hbd : u.bad = 0
      · have t2 : (u1.bad == 0) = true := by rw [hub1]; simpa using hbd
        have hex : ¬ ((u.skip X).mark X = en ∨ u.bad ≠ 0) := by rw [hu1]; exact fun h => h.elim hme (fun h => h hbd)
        have hgo := manyS_go (kid := kid) (ks := rows.map Prod.fst) hpos1 hex
        obtain ⟨k1, k2, k3, k4, k5, k6, k7⟩ := round_keeps HKF.out HFU.out HUB.out hex
        rw [hu1] at k1 k2 k3 k5 k6 k7 hgo
        obtain ⟨s3, hs3⟩ : ∃ s3, (kid u1).1 = s3 := ⟨_, rfl⟩
        obtain ⟨nd, hnd⟩ : ∃ nd, (kid u1).2 = nd := ⟨_, rfl⟩
        obtain ⟨s4, hs4⟩ : ∃ s4, s3.skip X = s4 := ⟨_, rfl⟩
        obtain ⟨m2v, hm2v⟩ : ∃ m2v : Int, ((s4.mark X).toNat : Int) = m2v := ⟨_, rfl⟩
        rw [hs3, hs4] at k1 k2 k3 k7 hgo
        rw [hs3] at k6
        rw [hnd] at hgo
        obtain ⟨s5, hs5⟩ : ∃ s5, roundS X en s4 = s5 := ⟨_, rfl⟩
        rw [hs5] at k1 k2 k3 hgo
        have hb1 : u1.bad = 0 := by rw [hub1]; exact hbd
        have HS3 := Lib.hid hs3
        have HND := Lib.hid hnd
        have HS4 := Lib.hid hs4
        have HM2V := Lib.hid hm2v
        have HS5 := Lib.hid hs5
        have HGO := Lib.hid (HEQ.out.trans hgo)
        have K1 := Lib.hid k1
        have K2 := Lib.hid k2
        have HB1 := Lib.hid hb1
        clear hs3 hnd hs4 hm2v hs5 hgo k1 k2 k4 hb1 hex hbd hne hme hub1 hu1 hmv HEQ HFU HUB
        go_wp2_with fail
        refine HMk.out.mono ?_
        rintro e w2 ⟨rfl, hr2, hg2⟩
        have hm2 := HM.out.grow hRl hr2 hg2
        obtain ⟨c0, c1, c2, c3, c4, fz⟩ := hm2.rs.cells
        obtain ⟨m0, m1, m2, m3, mf⟩ := node_cells hm2.nod
        have mf1 := mf 3
        have HM3 := Lib.hid hm2
        clear hm2 hr2 hg2 mf
        go_upto_region 4 with fail
        go_cut [] (fun wx => Hid (KidsMore w R ta tc S X k s.i s3 rows nd wx))
        case first =>
          have HKC := Lib.hid (kid_came (kid := kid) hRl (HM3.out.drewN hRl 1) (HK.out u1 _ (HM3.out.drewN hRl 1).gr (HM3.out.drewN hRl 1).rs HB1.out k5) HS3.out HND.out)
          clear c0 c1 c2 c3 c4 fz m0 m1 m2 HMk
          go_region_law (first
            | (refine step_kid rfl (.tmp 36) (.tmp 39) rfl HA.out.1.kr HA.out.1.size nd so sn sc HA.out.2 _ rfl rfl rfl (by omega) ?_; intro g4 cap4 w4 hkr4 hg4; have hcc := HA.out.1.cell hg4; have hca := hcc.1; have hcb := hcc.2; have HKR4 := Lib.hid hkr4; have HG4 := Lib.hid hg4; clear hcc hkr4 hg4)
            | (go_simp; refine HKC.out.mono ?_; rintro e w3 ⟨so, sn, sc, rfl, HA, hc3, hf3, hz3⟩))
          all_goals
            go_wp2_with fail
            go_meet
            exact Lib.hid ⟨_, _, HA.out.1.put H0.out HKR4.out HG4.out⟩
        case rest =>
          obtain ⟨sl, v2, hmr⟩ := hcut.out
          clear HM3 HM HMk c0 c1 c2 c3 c4 fz m0 m1 m2 m3 mf1 hcut
          have HM := Lib.hid hmr
          clear hmr
          have HMk := Lib.hid (mark_of s4 m2v R ta tc S X s3 wc HM.out.rs hT (by omega) HPOS.out HS4.out HM2V.out)
          have hlen2 : (rows ++ [(nd, sl)]).length + (gk - 1) ≤ X.F := by rw [List.length_append]; simp only [List.length_cons, List.length_nil]; omega
          have HGO2 : Hid (manyS X kid en X.F s.inc [] = manyS X kid en (gk - 1) s5 ((rows ++ [(nd, sl)]).map Prod.fst)) := Lib.hid (by rw [List.map_append]; exact HGO.out)
          have hi4 : s4.i ≤ 200000 := by omega
          by_cases h44 : s4.mark X = 44
          · have t5 : (m2v != 44) = false := by
              have : m2v = 44 := by rw [← HM2V.out, h44]; rfl
              simpa using this
            have t6 : (m2v == 44) = true := by
              have : m2v = 44 := by rw [← HM2V.out, h44]; rfl
              simpa using this
            have e5 : s5 = s4.inc := by rw [← HS5.out]; unfold roundS; rw [if_pos h44]
            have HE5 := Lib.hid e5
            clear h44 e5
            go_wp2_with fail
            refine HMk.out.mono ?_
            rintro e w6 ⟨rfl, hr2, hg2⟩
            have hm2 := HM.out.grow hRl hr2 hg2
            obtain ⟨c0, c1, c2, c3, c4, fz⟩ := hm2.rs.cells
            obtain ⟨m0, m1, m2, m3, mf⟩ := node_cells hm2.nod
            have mf1 := mf 3
            have HM3 := Lib.hid hm2
            clear hm2 hr2 hg2 mf
            go_wp2_with fail
            go_roundg (gk - 1)
            case measure => omega
            case rel => exact ⟨s5, rows ++ [(nd, sl)], v2, Lib.hid (by rw [HE5.out]; exact HM3.out.inc hRl), K1, K2, k3, hlen2, HGO2⟩
          · have n44 : ¬ m2v = 44 := by
              intro e
              apply h44
              have h1 : (s4.mark X).toNat = 44 := by have h2 := HM2V.out.trans e; exact_mod_cast h2
              exact UInt8.toNat_inj.1 h1
            have t5 : (m2v != 44) = true := by simpa using n44
            have t6 : (m2v == 44) = false := by simpa using n44
            by_cases h5e : s4.mark X = en
            · have t7 : (m2v != ev) = false := by
                have : m2v = ev := by rw [← HM2V.out, h5e, HEV.out]
                simpa using this
              have e5 : s5 = s4 := by rw [← HS5.out]; unfold roundS; rw [if_neg h44, if_pos h5e]
              have HE5 := Lib.hid e5
              clear h44 e5 h5e n44
              go_wp2_with fail
              refine HMk.out.mono ?_
              rintro e w6 ⟨rfl, hr2, hg2⟩
              have hm2 := HM.out.grow hRl hr2 hg2
              obtain ⟨c0, c1, c2, c3, c4, fz⟩ := hm2.rs.cells
              obtain ⟨m0, m1, m2, m3, mf⟩ := node_cells hm2.nod
              have mf1 := mf 3
              have HM3 := Lib.hid hm2
              clear hm2 hr2 hg2 mf
              go_wp2_with fail
              go_roundg (gk - 1)
              case measure => omega
              case rel => exact ⟨s5, rows ++ [(nd, sl)], v2, Lib.hid (by rw [HE5.out]; exact HM3.out), K1, K2, k3, hlen2, HGO2⟩
            · have n5 : ¬ m2v = ev := by
                intro e
                apply h5e
                have h1 : (s4.mark X).toNat = en.toNat := by have h2 := HM2V.out.trans e; rw [HEV.out] at h2; exact_mod_cast h2
                exact UInt8.toNat_inj.1 h1
              have t7 : (m2v != ev) = true := by simpa using n5
              have e5 : s5 = s4.fail X 4 := by rw [← HS5.out]; unfold roundS; rw [if_neg h44, if_neg h5e]
              have HE5 := Lib.hid e5
              clear h44 e5 h5e n44 n5
              go_wp2_with fail
              refine HMk.out.mono ?_
              rintro e w6 ⟨rfl, hr2, hg2⟩
              have hm2 := HM.out.grow hRl hr2 hg2
              obtain ⟨c0, c1, c2, c3, c4, fz⟩ := hm2.rs.cells
              obtain ⟨m0, m1, m2, m3, mf⟩ := node_cells hm2.nod
              have mf1 := mf 3
              have HM3 := Lib.hid hm2
              clear hm2 hr2 hg2 mf
              go_wp2_with fail
              refine (fail_any 4 R ta tc S X s4 _ HM3.out.rs hT hi4).mono ?_
              rintro e w7 ⟨rfl, hr7, hg7⟩
              have HM7 := Lib.hid (HM3.out.grow hRl hr7 hg7)
              clear hr7 hg7
              go_wp2_with fail
              go_roundg (gk - 1)
              case measure => omega
              case rel => exact ⟨s5, rows ++ [(nd, sl)], v2, Lib.hid (by rw [HE5.out]; exact HM7.out), K1, K2, k3, hlen2, HGO2⟩
      · have t2 : (u1.bad == 0) = false := by rw [hub1]; simpa using hbd
        have hend : (manyS X kid en X.F s.inc []) = (u1, rows.map Prod.fst) := by rw [HEQ.out, manyS_end hpos1 (.inr hbd), hu1]
        have HMV := Lib.hid hmv
        clear hmv hme hu1 hub1 hpos1 HEQ HFU HUB hbd hne
        go_wp2_with fail
        refine HMk.out.mono ?_
        rintro e w2 ⟨rfl, hr2, hg2⟩
        have hm2 := HM.out.grow hRl hr2 hg2
        obtain ⟨c0, c1, c2, c3, c4, fz⟩ := hm2.rs.cells
        obtain ⟨m0, m1, m2, m3, mf⟩ := node_cells hm2.nod
        have mf1 := mf 3
        have HM3 := Lib.hid hm2
        clear hm2 hr2 hg2 mf
        obtain ⟨vo, vc, hvf⟩ := HM3.out.kr.form
        subst hvf
        have mf2 := (node_cells HM3.out.nod).2.2.2.2 2
        obtain ⟨b0, b1, b2, b3, bf⟩ := node_cells HM3.out.res
        have bf0 := bf 0
        have bf1 := bf 1
        have bf2 := bf 2
        have bf3 := bf 3
        have HEND := Lib.hid hend
        clear bf hend HMk
        go_wp2_with fail
        have HM5 := Lib.hid (HM3.out.inc hRl)
        generalize w2.setCell ⟨R, 2, none⟩ (.int .i64 ((u1.i : Int) + 1)) = w5 at HM5 ⊢
        clear c0 c1 c2 c3 c4 fz m0 m1 m2 m3 mf1 mf2 b0 b1 b2 b3 bf0 bf1 bf2 bf3
        have R6 := Lib.hid (HM5.out.endAt (.int .i64 ((u1.i : Int) + 1))).1
        obtain ⟨h7, g7⟩ := store4 R6.out (.int .i64 k) (.int .i64 (s.i : Int)) (.int .i64 ((u1.i : Int) + 1)) (.slice vo rows.length vc)
        generalize (((((w5.setCell ⟨w.heap.size + 1, 2, none⟩ (.int .i64 ((u1.i : Int) + 1))).setCell ⟨w.heap.size, 0, none⟩ (.int .i64 k)).setCell ⟨w.heap.size, 1, none⟩ (.int .i64 (s.i : Int))).setCell ⟨w.heap.size, 2, none⟩ (.int .i64 ((u1.i : Int) + 1))).setCell ⟨w.heap.size, 3, none⟩ (.slice vo rows.length vc)) = w7 at h7 g7 ⊢
        obtain ⟨f1, f2, f3⟩ := MR.fin H0.out HM5.out _ g7
        obtain ⟨n0, n1, n2, n3, -⟩ := node_cells h7
        exact bodyPost_ret (v := .agg #[.int .i64 k, .int .i64 (s.i : Int), .int .i64 ((u1.i : Int) + 1), .slice vo rows.length vc]) (by simp [results, Try.results26, go_sem, n0, n1, n2, n3]) rfl
          (by unfold manyN; rw [HEND.out]; exact ⟨_, rfl, f1, f2, f3⟩)

set_option maxHeartbeats 8000000 in
theorem many_value (p2 p3 : Addr) (k : Int) (en : UInt8) (hen : en ≠ 0) (hen2 : en ≠ 44) (c : Nat) (kid : PS → PS × Nd) (R : Nat) (ta : Option Addr) (tc : Nat) (S : ByteArray) (X : TS) (hkf : Fine X c fun s => (kid s).1) (hc : c ≤ 30) (s : PS) (w : World) (h : RS w R ta tc S X s) (hT : X.T.length ≤ 20000) (hF : X.T.length + 2 ≤ X.F) (hF2 : X.F ≤ 100000)
    (hi : s.i < X.T.length) (hb0 : s.bad = 0) (hpos : ∀ j, j < X.T.length → X.pos j < X.l.length) (hk : KidOk R ta tc S X w 29 #[.pointer (some p2), .pointer (some p3)] kid) :
    Calls Try.prog 26 #[.pointer (some ⟨R, 0, none⟩), .int .i64 k, .int .u8 (en.toNat : Int), .func (.func 29) #[] #[.pointer (some p2), .pointer (some p3)]] w (NP R ta tc S X (manyN X k en kid s) w) := by
  have hRl := h.lt
  obtain ⟨ev, hev⟩ : ∃ ev : Int, ev = (en.toNat : Int) := ⟨_, rfl⟩
  rw [← hev]
  have HEV := Lib.hid hev
  have H0 := Lib.hid h
  have h1 := h.set2 (s.i + 1)
  rw [show ((s.i + 1 : Nat) : Int) = (s.i : Int) + 1 by omega] at h1
  have hsz : (w.setCell ⟨R, 2, none⟩ (.int .i64 ((s.i : Int) + 1))).heap.size = w.heap.size := by simp [World.setCell]
  have M0 : MR w R ta tc S X k s.i s.inc [] (.slice none 0 0) (((w.setCell ⟨R, 2, none⟩ (.int .i64 ((s.i : Int) + 1))).alloc (.cells #[.int .i64 0, .int .i64 0, .int .i64 0, .slice none 0 0] 34)).alloc (.cells #[.int .i64 k, .int .i64 s.i, .int .i64 0, .slice none 0 0] 34)) := by
    refine ⟨(h1.alloc _).alloc _, KR.nil _ _, ?_, ?_, ((grown_set w R 2 _).trans (grown_alloc _ _ _)).trans (grown_alloc _ _ _)⟩
    · exact (heap_alloc_old _ _ (by simp [hsz])).trans (by have := heap_alloc_last (w.setCell ⟨R, 2, none⟩ (.int .i64 ((s.i : Int) + 1))) (.cells #[.int .i64 0, .int .i64 0, .int .i64 0, .slice none 0 0] 34); rwa [hsz] at this)
    · have := heap_alloc_last ((w.setCell ⟨R, 2, none⟩ (.int .i64 ((s.i : Int) + 1))).alloc (.cells #[.int .i64 0, .int .i64 0, .int .i64 0, .slice none 0 0] 34)) (.cells #[.int .i64 k, .int .i64 s.i, .int .i64 0, .slice none 0 0] 34)
      rwa [World.size_alloc, hsz] at this
  have HM0 := Lib.hid M0
  obtain ⟨c0, c1, c2, c3, c4, fz⟩ := h.cells
  have hRn : ¬ R = w.heap.size := by omega
  have hRn2 : ¬ w.heap.size = R := by omega
  have hRn3 : ¬ R = w.heap.size + 1 := by omega
  have hRn4 : ¬ w.heap.size + 1 = R := by omega
  have HK := Lib.hid hk
  have HKF := Lib.hid hkf
  have HPOS := Lib.hid hpos
  have HEN := Lib.hid hen
  have HEN2 := Lib.hid hen2
  have HB0 := Lib.hid hb0
  clear h hk hev M0 h1 hsz hkf hpos hen hen2 hb0
  go_enter Try.func26, Try.ntmps26
  go_wp2_with fail
  clear c0 c1 c2 c3 c4 fz
  go_loopg [] (X.F) (fun g wx => ∃ (u : PS) (rows : List (Nd × Value)) (v : Value), Hid (MR w R ta tc S X k s.i u rows v wx) ∧ Hid (Fuel X en g u) ∧ Hid (u.bad = 0 → u.i ≤ X.T.length) ∧ u.i ≤ X.T.length + c ∧ rows.length + g ≤ X.F ∧ Hid (manyS X kid en X.F s.inc [] = manyS X kid en g u (rows.map Prod.fst)))
  case atStart =>
    have hsi : s.inc.i = s.i + 1 := rfl
    exact ⟨s.inc, [], .slice none 0 0, HM0, Lib.hid (.inl ⟨HB0.out, by omega⟩), Lib.hid (fun _ => by omega), by omega, by simp, Lib.hid rfl⟩
  case round =>
    obtain ⟨u, rows, v, HM, HFU, HUB, hui, hlen, HEQ⟩ := hrel
    clear HM0
    obtain ⟨u1, hu1⟩ : ∃ u1, u.skip X = u1 := ⟨_, rfl⟩
    obtain ⟨mv, hmv⟩ : ∃ mv : Int, ((u1.mark X).toNat : Int) = mv := ⟨_, rfl⟩
    have HMk : ∀ wz, RS wz R ta tc S X u → _ := fun wz hz => mark_of u1 mv R ta tc S X u wz hz hT (by omega) HPOS.out hu1 hmv
    replace HMk := Lib.hid (HMk wr HM.out.rs)
    have hpos1 := HFU.out.pos HUB.out
    have hui1 : u1.i ≤ 100000 := by
      have := skip_fine X u
      rw [hu1] at this
      rcases Nat.lt_or_ge X.T.length u.i with h | h
      · rw [this.2.2 (by omega)]; omega
      · have := this.2.1 h; omega
    have hub1 : u1.bad = u.bad := by rw [← hu1]; rfl
    by_cases hme : u1.mark X = en
    · have t1 : (mv != ev) = false := by
        have : mv = ev := by rw [← hmv, hme, HEV.out]
        simpa using this
      have hend : (manyS X kid en X.F s.inc []) = (u1, rows.map Prod.fst) := by rw [HEQ.out, manyS_end hpos1 (.inl (by rw [hu1]; exact hme)), hu1]
      have HMV := Lib.hid hmv
      clear hmv hme hu1 hub1 hpos1 HEQ HFU HUB
      go_wp2_with fail
      refine HMk.out.mono ?_
      rintro e w2 ⟨rfl, hr2, hg2⟩
      have hm2 := HM.out.grow hRl hr2 hg2
      obtain ⟨c0, c1, c2, c3, c4, fz⟩ := hm2.rs.cells
      obtain ⟨m0, m1, m2, m3, mf⟩ := node_cells hm2.nod
      have mf1 := mf 3
      have HM3 := Lib.hid hm2
      clear hm2 hr2 hg2 mf
      obtain ⟨vo, vc, hvf⟩ := HM3.out.kr.form
      subst hvf
      have mf2 := (node_cells HM3.out.nod).2.2.2.2 2
      obtain ⟨b0, b1, b2, b3, bf⟩ := node_cells HM3.out.res
      have bf0 := bf 0
      have bf1 := bf 1
      have bf2 := bf 2
      have bf3 := bf 3
      have HEND := Lib.hid hend
      clear bf hend HMk
      go_wp2_with fail
      have HM5 := Lib.hid (HM3.out.inc hRl)
      generalize w2.setCell ⟨R, 2, none⟩ (.int .i64 ((u1.i : Int) + 1)) = w5 at HM5 ⊢
      clear c0 c1 c2 c3 c4 fz m0 m1 m2 m3 mf1 mf2 b0 b1 b2 b3 bf0 bf1 bf2 bf3
      have R6 := Lib.hid (HM5.out.endAt (.int .i64 ((u1.i : Int) + 1))).1
      obtain ⟨h7, g7⟩ := store4 R6.out (.int .i64 k) (.int .i64 (s.i : Int)) (.int .i64 ((u1.i : Int) + 1)) (.slice vo rows.length vc)
      generalize (((((w5.setCell ⟨w.heap.size + 1, 2, none⟩ (.int .i64 ((u1.i : Int) + 1))).setCell ⟨w.heap.size, 0, none⟩ (.int .i64 k)).setCell ⟨w.heap.size, 1, none⟩ (.int .i64 (s.i : Int))).setCell ⟨w.heap.size, 2, none⟩ (.int .i64 ((u1.i : Int) + 1))).setCell ⟨w.heap.size, 3, none⟩ (.slice vo rows.length vc)) = w7 at h7 g7 ⊢
      obtain ⟨f1, f2, f3⟩ := MR.fin H0.out HM5.out _ g7
      obtain ⟨n0, n1, n2, n3, -⟩ := node_cells h7
      exact bodyPost_ret (v := .agg #[.int .i64 k, .int .i64 (s.i : Int), .int .i64 ((u1.i : Int) + 1), .slice vo rows.length vc]) (by simp [results, Try.results26, go_sem, n0, n1, n2, n3]) rfl
        (by unfold manyN; rw [HEND.out]; exact ⟨_, rfl, f1, f2, f3⟩)
    · have hne : ¬ mv = ev := by
        intro e
        apply hme
        have h1 : (u1.mark X).toNat = en.toNat := by have h2 := hmv.trans e; rw [HEV.out] at h2; exact_mod_cast h2
        exact UInt8.toNat_inj.1 h1
      have t1 : (mv != ev) = true := by simpa using hne
      by_cases hbd : u.bad = 0
      · have t2 : (u1.bad == 0) = true := by rw [hub1]; simpa using hbd
        have hex : ¬ ((u.skip X).mark X = en ∨ u.bad ≠ 0) := by rw [hu1]; exact fun h => h.elim hme (fun h => h hbd)
        have hgo := manyS_go (kid := kid) (ks := rows.map Prod.fst) hpos1 hex
        obtain ⟨k1, k2, k3, k4, k5, k6, k7⟩ := round_keeps HKF.out HFU.out HUB.out hex
        rw [hu1] at k1 k2 k3 k5 k6 k7 hgo
        obtain ⟨s3, hs3⟩ : ∃ s3, (kid u1).1 = s3 := ⟨_, rfl⟩
        obtain ⟨nd, hnd⟩ : ∃ nd, (kid u1).2 = nd := ⟨_, rfl⟩
        obtain ⟨s4, hs4⟩ : ∃ s4, s3.skip X = s4 := ⟨_, rfl⟩
        obtain ⟨m2v, hm2v⟩ : ∃ m2v : Int, ((s4.mark X).toNat : Int) = m2v := ⟨_, rfl⟩
        rw [hs3, hs4] at k1 k2 k3 k7 hgo
        rw [hs3] at k6
        rw [hnd] at hgo
        obtain ⟨s5, hs5⟩ : ∃ s5, roundS X en s4 = s5 := ⟨_, rfl⟩
        rw [hs5] at k1 k2 k3 hgo
        have hb1 : u1.bad = 0 := by rw [hub1]; exact hbd
        have HS3 := Lib.hid hs3
        have HND := Lib.hid hnd
        have HS4 := Lib.hid hs4
        have HM2V := Lib.hid hm2v
        have HS5 := Lib.hid hs5
        have HGO := Lib.hid (HEQ.out.trans hgo)
        have K1 := Lib.hid k1
        have K2 := Lib.hid k2
        have HB1 := Lib.hid hb1
        clear hs3 hnd hs4 hm2v hs5 hgo k1 k2 k4 hb1 hex hbd hne hme hub1 hu1 hmv HEQ HFU HUB
        go_wp2_with fail
        refine HMk.out.mono ?_
        rintro e w2 ⟨rfl, hr2, hg2⟩
        have hm2 := HM.out.grow hRl hr2 hg2
        obtain ⟨c0, c1, c2, c3, c4, fz⟩ := hm2.rs.cells
        obtain ⟨m0, m1, m2, m3, mf⟩ := node_cells hm2.nod
        have mf1 := mf 3
        have HM3 := Lib.hid hm2
        clear hm2 hr2 hg2 mf
        go_upto_region 4 with fail
        go_cut [] (fun wx => Hid (KidsMore w R ta tc S X k s.i s3 rows nd wx))
        case first =>
          have HKC := Lib.hid (kid_came (kid := kid) hRl (HM3.out.drewN hRl 1) (HK.out u1 _ (HM3.out.drewN hRl 1).gr (HM3.out.drewN hRl 1).rs HB1.out k5) HS3.out HND.out)
          clear c0 c1 c2 c3 c4 fz m0 m1 m2 HMk
          go_region_law (first
            | (refine step_kid rfl (.tmp 36) (.tmp 39) rfl HA.out.1.kr HA.out.1.size nd so sn sc HA.out.2 _ rfl rfl rfl (by omega) ?_; intro g4 cap4 w4 hkr4 hg4; have hcc := HA.out.1.cell hg4; have hca := hcc.1; have hcb := hcc.2; have HKR4 := Lib.hid hkr4; have HG4 := Lib.hid hg4; clear hcc hkr4 hg4)
            | (go_simp; refine HKC.out.mono ?_; rintro e w3 ⟨so, sn, sc, rfl, HA, hc3, hf3, hz3⟩))
          all_goals
            go_wp2_with fail
            go_meet
            exact Lib.hid ⟨_, _, HA.out.1.put H0.out HKR4.out HG4.out⟩
        case rest =>
          obtain ⟨sl, v2, hmr⟩ := hcut.out
          clear HM3 HM HMk c0 c1 c2 c3 c4 fz m0 m1 m2 m3 mf1 hcut
          have HM := Lib.hid hmr
          clear hmr
          have HMk := Lib.hid (mark_of s4 m2v R ta tc S X s3 wc HM.out.rs hT (by omega) HPOS.out HS4.out HM2V.out)
          have hlen2 : (rows ++ [(nd, sl)]).length + (gk - 1) ≤ X.F := by rw [List.length_append]; simp only [List.length_cons, List.length_nil]; omega
          have HGO2 : Hid (manyS X kid en X.F s.inc [] = manyS X kid en (gk - 1) s5 ((rows ++ [(nd, sl)]).map Prod.fst)) := Lib.hid (by rw [List.map_append]; exact HGO.out)
          have hi4 : s4.i ≤ 200000 := by omega
          by_cases h44 : s4.mark X = 44
          · have t5 : (m2v != 44) = false := by
              have : m2v = 44 := by rw [← HM2V.out, h44]; rfl
              simpa using this
            have t6 : (m2v == 44) = true := by
              have : m2v = 44 := by rw [← HM2V.out, h44]; rfl
              simpa using this
            have e5 : s5 = s4.inc := by rw [← HS5.out]; unfold roundS; rw [if_pos h44]
            have HE5 := Lib.hid e5
            clear h44 e5
            go_wp2_with fail
            refine HMk.out.mono ?_
            rintro e w6 ⟨rfl, hr2, hg2⟩
            have hm2 := HM.out.grow hRl hr2 hg2
            obtain ⟨c0, c1, c2, c3, c4, fz⟩ := hm2.rs.cells
            obtain ⟨m0, m1, m2, m3, mf⟩ := node_cells hm2.nod
            have mf1 := mf 3
            have HM3 := Lib.hid hm2
            clear hm2 hr2 hg2 mf
            go_wp2_with fail
            go_roundg (gk - 1)
            case measure => omega
            case rel => exact ⟨s5, rows ++ [(nd, sl)], v2, Lib.hid (by rw [HE5.out]; exact HM3.out.inc hRl), K1, K2, k3, hlen2, HGO2⟩
          · have n44 : ¬ m2v = 44 := by
              intro e
              apply h44
              have h1 : (s4.mark X).toNat = 44 := by have h2 := HM2V.out.trans e; exact_mod_cast h2
              exact UInt8.toNat_inj.1 h1
            have t5 : (m2v != 44) = true := by simpa using n44
            have t6 : (m2v == 44) = false := by simpa using n44
            by_cases h5e : s4.mark X = en
            · have t7 : (m2v != ev) = false := by
                have : m2v = ev := by rw [← HM2V.out, h5e, HEV.out]
                simpa using this
              have e5 : s5 = s4 := by rw [← HS5.out]; unfold roundS; rw [if_neg h44, if_pos h5e]
              have HE5 := Lib.hid e5
              clear h44 e5 h5e n44
              go_wp2_with fail
              refine HMk.out.mono ?_
              rintro e w6 ⟨rfl, hr2, hg2⟩
              have hm2 := HM.out.grow hRl hr2 hg2
              obtain ⟨c0, c1, c2, c3, c4, fz⟩ := hm2.rs.cells
              obtain ⟨m0, m1, m2, m3, mf⟩ := node_cells hm2.nod
              have mf1 := mf 3
              have HM3 := Lib.hid hm2
              clear hm2 hr2 hg2 mf
              go_wp2_with fail
              go_roundg (gk - 1)
              case measure => omega
              case rel => exact ⟨s5, rows ++ [(nd, sl)], v2, Lib.hid (by rw [HE5.out]; exact HM3.out), K1, K2, k3, hlen2, HGO2⟩
            · have n5 : ¬ m2v = ev := by
                intro e
                apply h5e
                have h1 : (s4.mark X).toNat = en.toNat := by have h2 := HM2V.out.trans e; rw [HEV.out] at h2; exact_mod_cast h2
                exact UInt8.toNat_inj.1 h1
              have t7 : (m2v != ev) = true := by simpa using n5
              have e5 : s5 = s4.fail X 4 := by rw [← HS5.out]; unfold roundS; rw [if_neg h44, if_neg h5e]
              have HE5 := Lib.hid e5
              clear h44 e5 h5e n44 n5
              go_wp2_with fail
              refine HMk.out.mono ?_
              rintro e w6 ⟨rfl, hr2, hg2⟩
              have hm2 := HM.out.grow hRl hr2 hg2
              obtain ⟨c0, c1, c2, c3, c4, fz⟩ := hm2.rs.cells
              obtain ⟨m0, m1, m2, m3, mf⟩ := node_cells hm2.nod
              have mf1 := mf 3
              have HM3 := Lib.hid hm2
              clear hm2 hr2 hg2 mf
              go_wp2_with fail
              refine (fail_any 4 R ta tc S X s4 _ HM3.out.rs hT hi4).mono ?_
              rintro e w7 ⟨rfl, hr7, hg7⟩
              have HM7 := Lib.hid (HM3.out.grow hRl hr7 hg7)
              clear hr7 hg7
              go_wp2_with fail
              go_roundg (gk - 1)
              case measure => omega
              case rel => exact ⟨s5, rows ++ [(nd, sl)], v2, Lib.hid (by rw [HE5.out]; exact HM7.out), K1, K2, k3, hlen2, HGO2⟩
      · have t2 : (u1.bad == 0) = false := by rw [hub1]; simpa using hbd
        have hend : (manyS X kid en X.F s.inc []) = (u1, rows.map Prod.fst) := by rw [HEQ.out, manyS_end hpos1 (.inr hbd), hu1]
        have HMV := Lib.hid hmv
        clear hmv hme hu1 hub1 hpos1 HEQ HFU HUB hbd hne
        go_wp2_with fail
        refine HMk.out.mono ?_
        rintro e w2 ⟨rfl, hr2, hg2⟩
        have hm2 := HM.out.grow hRl hr2 hg2
        obtain ⟨c0, c1, c2, c3, c4, fz⟩ := hm2.rs.cells
        obtain ⟨m0, m1, m2, m3, mf⟩ := node_cells hm2.nod
        have mf1 := mf 3
        have HM3 := Lib.hid hm2
        clear hm2 hr2 hg2 mf
        obtain ⟨vo, vc, hvf⟩ := HM3.out.kr.form
        subst hvf
        have mf2 := (node_cells HM3.out.nod).2.2.2.2 2
        obtain ⟨b0, b1, b2, b3, bf⟩ := node_cells HM3.out.res
        have bf0 := bf 0
        have bf1 := bf 1
        have bf2 := bf 2
        have bf3 := bf 3
        have HEND := Lib.hid hend
        clear bf hend HMk
        go_wp2_with fail
        have HM5 := Lib.hid (HM3.out.inc hRl)
        generalize w2.setCell ⟨R, 2, none⟩ (.int .i64 ((u1.i : Int) + 1)) = w5 at HM5 ⊢
        clear c0 c1 c2 c3 c4 fz m0 m1 m2 m3 mf1 mf2 b0 b1 b2 b3 bf0 bf1 bf2 bf3
        have R6 := Lib.hid (HM5.out.endAt (.int .i64 ((u1.i : Int) + 1))).1
        obtain ⟨h7, g7⟩ := store4 R6.out (.int .i64 k) (.int .i64 (s.i : Int)) (.int .i64 ((u1.i : Int) + 1)) (.slice vo rows.length vc)
        generalize (((((w5.setCell ⟨w.heap.size + 1, 2, none⟩ (.int .i64 ((u1.i : Int) + 1))).setCell ⟨w.heap.size, 0, none⟩ (.int .i64 k)).setCell ⟨w.heap.size, 1, none⟩ (.int .i64 (s.i : Int))).setCell ⟨w.heap.size, 2, none⟩ (.int .i64 ((u1.i : Int) + 1))).setCell ⟨w.heap.size, 3, none⟩ (.slice vo rows.length vc)) = w7 at h7 g7 ⊢
        obtain ⟨f1, f2, f3⟩ := MR.fin H0.out HM5.out _ g7
        obtain ⟨n0, n1, n2, n3, -⟩ := node_cells h7
        exact bodyPost_ret (v := .agg #[.int .i64 k, .int .i64 (s.i : Int), .int .i64 ((u1.i : Int) + 1), .slice vo rows.length vc]) (by simp [results, Try.results26, go_sem, n0, n1, n2, n3]) rfl
          (by unfold manyN; rw [HEND.out]; exact ⟨_, rfl, f1, f2, f3⟩)
end Go.Proofs.Ytfjeikijmconoaa
