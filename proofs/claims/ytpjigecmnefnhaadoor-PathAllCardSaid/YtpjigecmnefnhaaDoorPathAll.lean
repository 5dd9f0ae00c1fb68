/-
  PathAll's walk. Conditions: Go's two tables of utf8 lie in the world.
-/
import Derived.Test.YtpjigecmnefnhaaDoorAllP
import Derived.Test.YtpjigecmnefnhaaDoorAllLaw3
import Derived.Test.YtpjigecmnefnhaaDoorGetP
import Derived.Test.YtpjigecmnefnhaaDoorAlike
import Derived.Test.YtpjigecmnefnhaaDoorPathsOk
import Derived.Test.YtpjigecmnefnhaaDoorSameNo
import Derived.Test.YtpjigecmnefnhaaDoorNodes
import Derived.Test.YtpjigecmnefnhaaDoorCheck3
namespace Go.Proofs.YtpjigecmnefnhaaDoor
open Go.RowKit Gx
set_option maxRecDepth 100000

def TrueAll (w : World) (e : Ending) (w' : World) : Prop := e = .returned (.bool true) ∧ Below w.heap.size w w'
/-- v, boxed -/
structure PV (w : World) (q : Loc) (W : World) : Prop where
  b : CellsAt W w.heap.size 0 q
  lt : w.heap.size < W.heap.size
  g : Below w.heap.size w W
  hq : VAt W (fun _ => True) q
theorem PV.keep {w : World} {q : Loc} {W W' : World} (h : PV w q W) (hb : Below W.heap.size W W') : PV w q W' :=
  ⟨h.b.through (hb.block _ h.lt), Nat.lt_of_lt_of_le h.lt hb.size, h.g.trans (hb.mono (Nat.le_of_lt h.lt)), h.hq.keep hb⟩
theorem PV.start (w : World) (q : Loc) (hq : VAt w (fun _ => True) q) : PV w q (w.alloc (.cells #[.int .i64 q.v.k, .int .i64 q.v.n, .int .u64 q.v.f, .string q.v.s, .slice q.ad q.v.l.length q.cap, .slice q.bd q.v.e.length q.dap] 26)) := by
  have hb := (Below.refl w.heap.size w).alloc (Nat.le_refl _) (.cells #[.int .i64 q.v.k, .int .i64 q.v.n, .int .u64 q.v.f, .string q.v.s, .slice q.ad q.v.l.length q.cap, .slice q.bd q.v.e.length q.dap] 26)
  exact ⟨CellsAt.box (q := q) (heap_alloc_new w _), by simp, hb, hq.keep hb⟩
/-- v, and the rows of its paths -/
structure QB (w : World) (q : Loc) (O : Nat) (ps : List (List Step)) (vo : Value) (rows : List Value) (W : World) : Prop where
  pv : PV w q W
  ot : OT W O (fun _ => False) ps vo rows
theorem QB.keep {w : World} {q : Loc} {O : Nat} {ps : List (List Step)} {vo : Value} {rows : List Value} {W W' : World} (h : QB w q O ps vo rows W) (hb : Below W.heap.size W W') : QB w q O ps vo rows W' := ⟨h.pv.keep hb, h.ot.keep hb⟩
/-- a row -/
theorem OT.row {W : World} {O n c : Nat} {X : Nat → Prop} {ps : List (List Step)} {ao : Option Addr} {rows : List Value} (h : OT W O X ps (.slice ao n c) rows) (hn : 0 < n) : ∃ g, ao = some ⟨g, 0, none⟩ ∧ n ≤ c ∧ ∀ (j : Nat) (p : List Step), ps[j]? = some p → ∃ ad cap, W.cell? ⟨g, 0 + j * 1, none⟩ = some (.slice ad p.length cap) ∧ SR W ad cap p ∧ rows[j]? = some (.slice ad p.length cap) := by
  have hcell := fun g => h.own.cells (g := g)
  rcases h.own.2 with ⟨h1, h2⟩ | ⟨g, cap, cur, hv, hb, hg, hnc, hcm, hcs, ht⟩
  · cases h1; omega
  · cases hv
    refine ⟨g, rfl, hnc, fun j p hj => ?_⟩
    obtain ⟨ad, cap', h1, h2, -⟩ := h.at_ j p hj
    have := hcell g rfl j _ h1
    rw [Addr.add_lit] at this
    exact ⟨ad, cap', by rw [Nat.mul_one]; exact this, h2, h1⟩
def fan (u : V) : Nat := u.l.length + u.e.length
set_option maxHeartbeats 16000000 in
theorem pathAll_walk (q : Loc) (w : World) (hT : Tabs w) (hq : VAt w (fun _ => True) q) : Calls Tryd.prog 4 #[q.val] w (TrueAll w) := by
  have HP0 := Lib.hid (PV.start w q hq)
  have HT := Lib.hid hT
  unfold Loc.val
  clear hq hT
  go_enter Tryd.func4, Tryd.ntmps4
  go_upto_region 1 with fail
  generalize hw2 : World.alloc w _ = w2 at HP0 ⊢
  clear hw2
  go_wp2_with fail
  (with_reducible refine (paths_any _ (HT.out.keep HP0.out.g)).mono ?_)
  rintro e w3 ⟨rfl, hb3⟩
  have HP3 := Lib.hid (HP0.out.keep hb3)
  clear hb3 HP0
  obtain ⟨a0, a1, a2, a3, a4, a5⟩ := HP3.out.b
  have hck := Check_any q w3 (HT.out.keep HP3.out.g) HP3.out.hq
  obtain ⟨r, hr⟩ : ∃ r, chkV q.v = r := ⟨_, rfl⟩
  simp only [Loc.val, hr] at hck
  have HCK := Lib.hid hck
  have HR := Lib.hid hr
  clear hck hr
  go_wp2_with fail
  (with_reducible refine HCK.out.mono ?_)
  rintro e w4 ⟨rfl, hb4⟩
  have HP4 := Lib.hid (HP3.out.keep hb4)
  clear hb4 HP3 HCK a0 a1 a2 a3 a4 a5
  by_cases h1 : r = 0
  rotate_left
  · have t1 : ((r : Int) != 0) = true := by simp; omega
    clear h1
    go_wp2_with fail
    try go_ret
    exact ⟨rfl, HP4.out.g⟩
  subst h1
  have hnd := good_nodes HR.out
  obtain ⟨a0, a1, a2, a3, a4, a5⟩ := HP4.out.b
  have hno := nodes_any q w4 HP4.out.hq (by omega)
  obtain ⟨N, hN⟩ : ∃ N, q.v.nodes = N := ⟨_, rfl⟩
  simp only [Loc.val, hN] at hno
  rw [hN] at hnd
  have HNO := Lib.hid hno
  have HNN := Lib.hid hN
  have HGD := Lib.hid (chk_gd 20 q.v 0 HR.out)
  clear hno hN HR
  rw [show ((0 : Nat) : Int) = 0 from rfl]
  go_wp2_with fail
  (with_reducible refine HNO.out.mono ?_)
  rintro e w5 ⟨rfl, hb5⟩
  have HP5 := Lib.hid (HP4.out.keep hb5)
  clear hb5 HP4 HNO a0 a1 a2 a3 a4 a5
  by_cases h2 : 100 < N
  · have t1 : decide ((100 : Int) < (N : Int)) = true := decide_eq_true (by omega)
    clear h2
    go_wp2_with fail
    try go_ret
    exact ⟨rfl, HP5.out.g⟩
  have t1 : decide ((100 : Int) < (N : Int)) = false := decide_eq_false (by omega)
  obtain ⟨a0, a1, a2, a3, a4, a5⟩ := HP5.out.b
  have hal := all_any q w5 HP5.out.hq HGD.out (by rw [HNN.out]; omega)
  have HOK := Lib.hid (all_ok HGD.out)
  obtain ⟨ps, hps⟩ : ∃ ps, pathsD 20 q.v [] = ps := ⟨_, rfl⟩
  obtain ⟨us, hus⟩ : ∃ us, subsD 20 q.v = us := ⟨_, rfl⟩
  rw [hps, hus] at HOK
  have hpl : ps.length = N := HOK.out.len.trans HNN.out
  unfold RowsPost at hal
  simp only [Loc.val, hps, hpl] at hal
  have HALL := Lib.hid hal
  have HPL := Lib.hid hpl
  clear hal hps hus hpl HGD
  go_wp2_with fail
  (with_reducible refine HALL.out.mono ?_)
  rintro e w6 ⟨ao, c, rows, rfl, hot, hb6⟩
  have HQ6 := Lib.hid (QB.mk (HP5.out.keep hb6) hot)
  clear hot hb6 HALL HP5 a0 a1 a2 a3 a4 a5 t1 hnd
  generalize w5.heap.size + 1 = O at HQ6
  have HSUM : Hid ((us.map fan).sum + 1 = N) := Lib.hid (by rw [← HNN.out]; exact HOK.out.sum)
  have HUL : Hid (us.length = N) := Lib.hid (by rw [HOK.out.ulen, HPL.out])
  have hN1 : 1 ≤ N := by have := HSUM.out; omega
  have hN2 : N ≤ 100 := by omega
  clear h2
  go_wp2_with fail
  go_loopw [4, 25] (fun v4 v25 wr => ∃ (i S : Nat), i ≤ N ∧ v25 = .int .i64 i ∧ v4 = .int .i64 S ∧ Hid (((us.map fan).take i).sum = S) ∧ Hid (QB w q O ps (.slice ao N c) rows wr)) (fun _ v25 _ => N - (intOf v25).toNat)
  case atStart => exact ⟨0, 0, Nat.zero_le _, rfl, rfl, Lib.hid rfl, HQ6⟩
  case round =>
    obtain ⟨i, S, hi, rfl, rfl, HS, HQ⟩ := hrel
    clear HQ6
    by_cases hlt : i < N
    · obtain ⟨p, hp⟩ : ∃ p, ps[i]? = some p := ⟨_, List.getElem?_eq_getElem (by rw [HPL.out]; exact hlt)⟩
      obtain ⟨u, hu⟩ : ∃ u, us[i]? = some u := ⟨_, List.getElem?_eq_getElem (by rw [HUL.out]; exact hlt)⟩
      obtain ⟨g, hao, hgc, hrow⟩ := HQ.out.ot.row (by omega)
      subst hao
      obtain ⟨ad, cap, c0, hsr, hri⟩ := hrow i p hp
      have HRI := Lib.hid hri
      rw [Nat.mul_one] at c0
      have c0' : wr.cell? ⟨g, i, none⟩ = some (.slice ad p.length cap) := by rw [← c0, Nat.zero_add]
      obtain ⟨hgt, hpo⟩ := HOK.out.get i p u hp hu
      obtain ⟨hst1, hst2⟩ := sum_take (l := us.map fan) (k := i) (x := fan u) (by rw [List.getElem?_map, hu]; rfl)
      have HP := Lib.hid hp
      have HU := Lib.hid hu
      have HPO := Lib.hid hpo
      have HST : Hid (((us.map fan).take (i + 1)).sum = S + fan u) := Lib.hid (by rw [hst2, HS.out])
      have hfan : S + fan u + 1 ≤ N := by have h1 := HSUM.out; rw [HS.out] at hst1; omega
      have HSR := Lib.hid hsr
      obtain ⟨a0, a1, a2, a3, a4, a5⟩ := HQ.out.pv.b
      have r1 : (0 : Int) ≤ (i : Int) := by omega
      have r2 : (i : Int) < (N : Int) := by omega
      have r4 : (i : Int).toNat = i := rfl
      have hge := get_any q ad cap p wr (HT.out.keep HQ.out.pv.g) HQ.out.pv.hq hsr hpo
      have hpl20 := hpo.1
      obtain ⟨P, hP⟩ : ∃ P, p.length = P := ⟨_, rfl⟩
      unfold GetPost at hge
      simp only [Loc.val, hgt, hP] at hge
      rw [hP] at c0 c0' hpl20
      have HPP := Lib.hid hP
      have HGE := Lib.hid hge
      clear hge hp hu hsr hrow hgt hpo hst1 hst2 hP hri
      go_wp2_with fail
      (with_reducible refine HGE.out.mono ?_)
      rintro e w7 ⟨u1, rfl, hu1, hv1, hb7⟩
      have HU1 := Lib.hid hu1
      have hq7 := HQ.out.keep hb7
      have hbl := (Below.refl w7.heap.size w7).alloc (Nat.le_refl _) (.cells #[.int .i64 u1.v.k, .int .i64 u1.v.n, .int .u64 u1.v.f, .string u1.v.s, .slice u1.ad u1.v.l.length u1.cap, .slice u1.bd u1.v.e.length u1.dap] 26)
      have hq8 := hq7.keep hbl
      have hv8 := (hv1.weak (C := fun _ => True) (fun _ _ _ => trivial)).keep hbl
      have hc8 := CellsAt.box (q := u1) (heap_alloc_new w7 (.cells #[.int .i64 u1.v.k, .int .i64 u1.v.n, .int .u64 u1.v.f, .string u1.v.s, .slice u1.ad u1.v.l.length u1.cap, .slice u1.bd u1.v.e.length u1.dap] 26))
      have hl8 : w7.heap.size < (w7.alloc (.cells #[.int .i64 u1.v.k, .int .i64 u1.v.n, .int .u64 u1.v.f, .string u1.v.s, .slice u1.ad u1.v.l.length u1.cap, .slice u1.bd u1.v.e.length u1.dap] 26)).heap.size := by simp
      clear hu1 hq7 hbl hv1 hb7 HGE HQ a0 a1 a2 a3 a4 a5 c0 c0'
      go_upto_region 11 with fail
      generalize hw8 : World.alloc w7 _ = w8 at hq8 hv8 hc8 hl8 ⊢
      generalize hxb : w7.heap.size = xb at hc8 hl8 ⊢
      clear hw8 hxb
      have HQ8 := Lib.hid hq8
      have HV8 := Lib.hid hv8
      have HC8 := Lib.hid hc8
      have HL8 := Lib.hid hl8
      clear hq8 hv8 hc8 hl8
      go_upto_region 13 with fail
      go_cut [38, 39, 40, 41, 42, 43, 44, 45, 46, 47, 48, 49, 50] (fun _ _ _ _ _ _ _ _ _ _ _ _ s50 wx => s50 = .bool false ∧ Hid (QB w q O ps (.slice (some ⟨g, 0, none⟩) N c) rows wx) ∧ Hid (CellsAt wx xb 0 u1))
      case first =>
        by_cases hi0 : i = 0
        · subst hi0
          have hp0 : P = 0 := by
            have h1 := HP.out
            rw [HOK.out.first.1] at h1
            cases h1
            exact HPP.out.symm
          subst hp0
          have huv : q.v = u1.v := by
            have h1 := HU.out
            rw [HOK.out.first.2] at h1
            cases h1
            exact HU1.out.symm
          obtain ⟨a0, a1, a2, a3, a4, a5⟩ := HQ8.out.pv.b
          obtain ⟨b0, b1, b2, b3, b4, b5⟩ := HC8.out
          have hal := alike_any q u1 w8 HQ8.out.pv.hq HV8.out
          simp only [Loc.val] at hal
          have HAL := Lib.hid hal
          have HUV := Lib.hid huv
          clear hal huv
          go_wp2_with fail
          (with_reducible refine HAL.out.mono ?_)
          rintro e w9 ⟨b, rfl, hbt, hb9⟩
          obtain rfl : b = true := hbt.2 HUV.out
          have H9 := Lib.hid (HQ8.out.keep hb9)
          have H9c := Lib.hid (HC8.out.through (hb9.block _ HL8.out))
          clear hbt hb9
          go_wp2_with fail
          go_meet
          exact ⟨rfl, H9, H9c⟩
        · have t1 : ((i : Int) == 0) = false := by simp; omega
          clear hi0
          go_wp2_with fail
          go_meet
          exact ⟨rfl, HQ8, HC8⟩
      case rest =>
        obtain ⟨rfl, HQ9, HC9⟩ := hcut
        clear HQ8 HV8 HC8 HL8
        obtain ⟨A, hA⟩ : ∃ A, u1.v.l.length = A := ⟨_, rfl⟩
        obtain ⟨B, hB⟩ : ∃ B, u1.v.e.length = B := ⟨_, rfl⟩
        obtain ⟨-, -, -, -, b4, b5⟩ := HC9.out
        rw [hA] at b4
        rw [hB] at b5
        have hfu : fan u = A + B := by rw [← HU1.out, fan, hA, hB]
        rw [hfu] at hfan HST
        clear hA hB hfu
        go_wp2_with fail
        clear b4 b5
        go_loopw [64] (fun v64 wr => ∃ j : Nat, j ≤ i ∧ v64 = .int .i64 j ∧ Hid (QB w q O ps (.slice (some ⟨g, 0, none⟩) N c) rows wr)) (fun v64 _ => i - (intOf v64).toNat)
        case atStart => exact ⟨0, Nat.zero_le _, rfl, HQ9⟩
        case round =>
          obtain ⟨j, hj, rfl, HQ⟩ := hrel
          clear HQ9
          by_cases hlt2 : j < i
          · obtain ⟨p2, hp2⟩ : ∃ p2, ps[j]? = some p2 := ⟨_, List.getElem?_eq_getElem (by rw [HPL.out]; omega)⟩
            obtain ⟨g', hg', -, hrow⟩ := HQ.out.ot.row (by omega)
            cases hg'
            obtain ⟨ad1, cap1, -, hsr1, hri1⟩ := hrow i p HP.out
            rw [HRI.out] at hri1
            cases hri1
            obtain ⟨ad2, cap2, c0, hsr2, -⟩ := hrow j p2 hp2
            rw [Nat.mul_one] at c0
            have c0' : wr.cell? ⟨g, j, none⟩ = some (.slice ad2 p2.length cap2) := by rw [← c0, Nat.zero_add]
            have hpo2 := (HOK.out.get j p2 (us.getD j .zero) hp2 (by rw [List.getD, List.getElem?_eq_getElem (by rw [HUL.out]; omega)]; rfl)).2
            have hdif := HOK.out.dif j i p2 p hlt2 hp2 HP.out
            have hsp := samePath_no ad ad2 cap cap2 p p2 wr hsr1 hsr2 (by rw [HPP.out]; omega) (by have := hpo2.1; omega) (fun e => hdif e.symm)
            obtain ⟨P2, hP2⟩ : ∃ P2, p2.length = P2 := ⟨_, rfl⟩
            rw [HPP.out, hP2] at hsp
            rw [hP2] at c0 c0'
            have HSP := Lib.hid hsp
            have q1 : (0 : Int) ≤ (j : Int) := by omega
            have q2 : (j : Int) < (i : Int) := by omega
            have q3 : (j : Int).toNat = j := rfl
            clear hsp hP2 hdif hpo2 hsr1 hsr2 hrow hp2
            go_wp2_with fail
            (with_reducible refine HSP.out.mono ?_)
            rintro e w9 ⟨rfl, hb9⟩
            have H9 := Lib.hid (HQ.out.keep hb9)
            clear hb9 c0 c0'
            go_wp2_with fail
            go_roundw
            case rel => exact ⟨j + 1, by omega, by go_num, H9⟩
            case measure => simp [intOf]; omega
          · have q1 : decide ((j : Int) < (i : Int)) = false := decide_eq_false (by omega)
            have q2 : decide (j < i) = false := decide_eq_false hlt2
            clear hlt2 hj
            go_wp2_with fail
            go_roundw
            case rel => exact ⟨i + 1, S + (A + B), by omega, by go_num, by go_num, HST, HQ⟩
            case measure => simp [intOf]; omega
    · obtain rfl : i = N := by omega
      have hS : S + 1 = i := by
        have h1 := HS.out
        have h2 := HSUM.out
        rw [List.take_of_length_le (by rw [List.length_map, HUL.out]; exact Nat.le_refl _)] at h1
        omega
      have t1 : ((S : Int) == (i : Int) - 1) = true := by simp; omega
      obtain ⟨a0, a1, a2, a3, a4, a5⟩ := HQ.out.pv.b
      have hno := nodes_any q wr HQ.out.pv.hq (by rw [HNN.out]; omega)
      simp only [Loc.val, HNN.out] at hno
      have HNO := Lib.hid hno
      clear hno hlt hi
      go_wp2_with fail
      (with_reducible refine HNO.out.mono ?_)
      rintro e w9 ⟨rfl, hb9⟩
      have H9 := Lib.hid (HQ.out.keep hb9)
      clear hb9 a0 a1 a2 a3 a4 a5
      go_wp2_with fail
      try go_ret
      exact ⟨rfl, H9.out.pv.g⟩
end Go.Proofs.YtpjigecmnefnhaaDoor
