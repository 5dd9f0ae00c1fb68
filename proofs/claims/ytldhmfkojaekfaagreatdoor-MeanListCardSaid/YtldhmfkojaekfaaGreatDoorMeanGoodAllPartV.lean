/-
  The contract of alike: two values are one. No conditions.
  The walk of typecasekeep.MeanGood. Condition: the library's tables lie in the world.
  What the row of MeanGood lists: the library's tables, an error in strconv.ErrSyntax; a variable of the library's that holds some integer. No conditions.
-/
import Derived.Test.YtldhmfkojaekfaaGreatDoorProg
import Derived.Deep.DeepCutAuto
import Derived.Deep.CutBlock
import Derived.Deep.DeepFit
import Derived.Outline
import Derived.WalkLawsBesides
import Derived.StillTailTactics
import Derived.Test.YtldhmfkojaekfaaGreatDoorRows
import Derived.Lib.LaidTab
import Derived.Lib.LaidU8
import Derived.PinnedBridge
import Derived.ProofKit
import Derived.LaidLaws
import Derived.HandedShaped
import Derived.Test.YtldhmfkojaekfaaGreatDoorMeanGoodAllPartU
set_option linter.unusedVariables false
namespace Go.Proofs.YtldhmfkojaekfaaGreatDoor
open Go.RowKit Gx
set_option maxRecDepth 100000
def AlikePost (v u : V) (w : World) (e : Ending) (w' : World) : Prop := ∃ b : Bool, e = .returned (.bool b) ∧ (b = true ↔ v = u) ∧ Below w.heap.size w w'
/-- two lists agree up to k -/
def upTo {α : Type} (k : Nat) (a b : List α) : Prop := ∀ i, i < k → a[i]? = b[i]?
theorem upTo_succ {α : Type} {k : Nat} {a b : List α} (h : upTo k a b) (hk : a[k]? = b[k]?) : upTo (k + 1) a b := fun i hi => by
  by_cases e : i = k
  · rw [e]; exact hk
  · exact h i (by omega)
theorem upTo_all {α : Type} {a b : List α} (h : upTo a.length a b) (hl : a.length = b.length) : a = b := by
  apply List.ext_getElem?
  intro i
  by_cases hi : i < a.length
  · exact h i hi
  · rw [List.getElem?_eq_none (by omega), List.getElem?_eq_none (by omega)]
/-- the two boxes -/
structure Two (w : World) (q p : Loc) (W : World) : Prop where
  a : CellsAt W w.heap.size 0 q
  b : CellsAt W (w.heap.size + 1) 0 p
  g : Below w.heap.size w W
  s : w.heap.size + 2 ≤ W.heap.size
theorem Two.start (q p : Loc) (w : World) : Two w q p ((w.alloc (.cells #[.int .i64 q.v.k, .int .i64 q.v.n, .int .u64 q.v.f, .string q.v.s, .slice q.ad q.v.l.length q.cap, .slice q.bd q.v.e.length q.dap] 26)).alloc
    (.cells #[.int .i64 p.v.k, .int .i64 p.v.n, .int .u64 p.v.f, .string p.v.s, .slice p.ad p.v.l.length p.cap, .slice p.bd p.v.e.length p.dap] 26)) := by
  refine ⟨?_, ?_, ((Below.refl _ w).alloc (Nat.le_refl _) _).alloc (by simp) _, by simp⟩
  · refine CellsAt.box (ty := 26) ?_
    rw [Below.heap_alloc _ _ _ (by simp)]
    exact heap_alloc_new w _
  · refine CellsAt.box (ty := 26) ?_
    have := heap_alloc_new (w.alloc (.cells #[.int .i64 q.v.k, .int .i64 q.v.n, .int .u64 q.v.f, .string q.v.s, .slice q.ad q.v.l.length q.cap, .slice q.bd q.v.e.length q.dap] 26)) (.cells #[.int .i64 p.v.k, .int .i64 p.v.n, .int .u64 p.v.f, .string p.v.s, .slice p.ad p.v.l.length p.cap, .slice p.bd p.v.e.length p.dap] 26)
    rwa [World.size_alloc] at this
theorem Two.keep {w : World} {q p : Loc} {W W' : World} (h : Two w q p W) (hb : Below W.heap.size W W') : Two w q p W' := by
  have hs := h.s
  exact ⟨h.a.through (hb.block _ (by omega)), h.b.through (hb.block _ (by omega)), h.g.trans (hb.mono h.g.size), by have := hb.size; omega⟩

set_option maxHeartbeats 8000000 in
theorem alike_step (v u : V) (ad bd ad' bd' : Option Addr) (cap dap cap' dap' : Nat) (w : World) (hq : VAt w (fun _ => True) ⟨v, ad, cap, bd, dap⟩) (hp : VAt w (fun _ => True) ⟨u, ad', cap', bd', dap'⟩)
    (ih : ∀ (q p : Loc) (w : World), SizeOf.sizeOf q.v < SizeOf.sizeOf v → VAt w (fun _ => True) q → VAt w (fun _ => True) p → Calls Tryz.prog 16 #[q.val, p.val] w (AlikePost q.v p.v w)) :
    Calls Tryz.prog 16 #[.agg #[.int .i64 v.k, .int .i64 v.n, .int .u64 v.f, .string v.s, .slice ad v.l.length cap, .slice bd v.e.length dap], .agg #[.int .i64 u.k, .int .i64 u.n, .int .u64 u.f, .string u.s, .slice ad' u.l.length cap', .slice bd' u.e.length dap']] w (AlikePost v u w) := by
  have HT := Lib.hid (Two.start ⟨v, ad, cap, bd, dap⟩ ⟨u, ad', cap', bd', dap'⟩ w)
  simp only at HT
  have HQ := Lib.hid hq
  have HP := Lib.hid hp
  have IH := Lib.hid ih
  have hl1 := hq.l.lbound
  have he1 := hq.e.ebound
  have hl2 := hp.l.lbound
  have he2 := hp.e.ebound
  simp only at hl1 he1 hl2 he2
  clear hq hp ih
  have no : ∀ W : World, v ≠ u → Below w.heap.size w W → AlikePost v u w (.returned (.bool false)) W := fun W h hb => ⟨false, rfl, ⟨fun e => by simp at e, fun e => absurd e h⟩, hb⟩
  have NO := Lib.hid no
  clear no
  have fl1 : ∀ a b : Nat, a ≠ b → ((a : Int) != (b : Int)) = true := fun a b h => by simp; omega
  have fl2 : ∀ a b : Nat, a ≠ b → (a != b) = true := fun a b h => by simp [h]
  have FL1 := Lib.hid fl1
  have FL2 := Lib.hid fl2
  clear fl1 fl2
  go_enter Tryz.func16, Tryz.ntmps16
  go_upto_region 1 with fail
  generalize hw2 : World.alloc (World.alloc w _) _ = w2 at HT ⊢
  clear hw2
  obtain ⟨a0, a1, a2, a3, a4, a5⟩ := HT.out.a
  obtain ⟨b0, b1, b2, b3, b4, b5⟩ := HT.out.b
  simp only at a0 a1 a2 a3 a4 a5 b0 b1 b2 b3 b4 b5
  by_cases e1 : v.k = u.k
  rotate_left
  · have t1 : (v.k != u.k) = true := by simpa using e1
    have HN := Lib.hid (NO.out _ (fun h => e1 (by rw [h])) HT.out.g)
    clear e1
    go_wp2_with fail
    try go_ret
    exact HN.out
  have t1 : (v.k != u.k) = false := by simpa using e1
  by_cases e2 : v.n = u.n
  rotate_left
  · have t2 : (v.n != u.n) = true := by simpa using e2
    have HN := Lib.hid (NO.out _ (fun h => e2 (by rw [h])) HT.out.g)
    clear e1 e2
    go_wp2_with fail
    try go_ret
    exact HN.out
  have t2 : (v.n != u.n) = false := by simpa using e2
  by_cases e3 : v.f = u.f
  rotate_left
  · have t3 : (v.f != u.f) = true := by simpa using e3
    have HN := Lib.hid (NO.out _ (fun h => e3 (by rw [h])) HT.out.g)
    clear e1 e2 e3
    go_wp2_with fail
    try go_ret
    exact HN.out
  have t3 : (v.f != u.f) = false := by simpa using e3
  by_cases e4 : v.s = u.s
  rotate_left
  · have t4 : (v.s.toList == u.s.toList) = false := by
      simp only [ByteArray.toList_eq, beq_eq_false_iff_ne, ne_eq]
      intro h; exact e4 (by cases hv : v.s; cases hu : u.s; rw [hv, hu] at h; congr 1; exact Array.toList_inj.1 h)
    have HN := Lib.hid (NO.out _ (fun h => e4 (by rw [h])) HT.out.g)
    clear e1 e2 e3 e4
    go_wp2_with fail
    try go_ret
    exact HN.out
  have t4 : (v.s.toList == u.s.toList) = true := by rw [e4]; simp
  by_cases e5 : v.l.length = u.l.length
  rotate_left
  · have t5 := FL1.out _ _ e5
    have t5' := FL2.out _ _ e5
    have HN := Lib.hid (NO.out _ (fun h => e5 (by rw [h])) HT.out.g)
    clear e1 e2 e3 e4 e5
    go_wp2_with fail
    try go_ret
    exact HN.out
  by_cases e6 : v.e.length = u.e.length
  rotate_left
  · have t5 : ((v.l.length : Int) != (u.l.length : Int)) = false := by simp [e5]
    have t5' : (v.l.length != u.l.length) = false := by simp [e5]
    have t6 := FL1.out _ _ e6
    have t6' := FL2.out _ _ e6
    have HN := Lib.hid (NO.out _ (fun h => e6 (by rw [h])) HT.out.g)
    clear e1 e2 e3 e4 e5 e6
    go_wp2_with fail
    try go_ret
    exact HN.out
  have HYES : Hid (v.l = u.l → v.e = u.e → v = u) := Lib.hid (fun x y => V.ext' e1 e2 e3 e4 x y)
  have t5 : ((v.l.length : Int) != (u.l.length : Int)) = false := by simp [e5]
  have t5' : (v.l.length != u.l.length) = false := by simp [e5]
  have t6 : ((v.e.length : Int) != (u.e.length : Int)) = false := by simp [e6]
  have t6' : (v.e.length != u.e.length) = false := by simp [e6]
  have E5 := Lib.hid e5
  have E6 := Lib.hid e6
  clear e1 e2 e3 e4 e5 e6
  obtain ⟨nl, hnl⟩ : ∃ nl, v.l.length = nl := ⟨_, rfl⟩
  obtain ⟨ne, hne⟩ : ∃ ne, v.e.length = ne := ⟨_, rfl⟩
  obtain ⟨ml, hml⟩ : ∃ ml, u.l.length = ml := ⟨_, rfl⟩
  obtain ⟨me, hme⟩ : ∃ me, u.e.length = me := ⟨_, rfl⟩
  rw [hnl] at a4 t5 t5' hl1 E5
  rw [hml] at b4 t5 t5' hl2 E5
  rw [hne] at a5 t6 t6' he1 E6
  rw [hme] at b5 t6 t6' he2 E6
  rw [hnl, hml, hne, hme]
  have HNL := Lib.hid hnl
  have HNE := Lib.hid hne
  have HML := Lib.hid hml
  have HME := Lib.hid hme
  clear hnl hne hml hme
  go_wp2_with fail
  clear t1 t2 t3 t4 t5 t5' t6 t6' a0 a1 a2 a3 a4 a5 b0 b1 b2 b3 b4 b5
  go_loopw [54] (fun v54 wr => ∃ k : Nat, k ≤ nl ∧ v54 = .int .i64 k ∧ Hid (Two w ⟨v, ad, cap, bd, dap⟩ ⟨u, ad', cap', bd', dap'⟩ wr) ∧ Hid (upTo k v.l u.l)) (fun v54 _ => nl - (intOf v54).toNat)
  case atStart => exact ⟨0, Nat.zero_le _, rfl, HT, Lib.hid (fun i hi => by omega)⟩
  case round =>
    obtain ⟨k, hk, rfl, HTr, HU⟩ := hrel
    clear HT
    by_cases hlt : k < nl
    · have hlt2 : k < ml := by have := E5.out; omega
      obtain ⟨x, hx⟩ : ∃ x, v.l[k]? = some x := ⟨_, List.getElem?_eq_getElem (by rw [HNL.out]; exact hlt)⟩
      obtain ⟨y, hy⟩ : ∃ y, u.l[k]? = some y := ⟨_, List.getElem?_eq_getElem (by rw [HML.out]; exact hlt2)⟩
      obtain ⟨b1, o1, hd1, -, hbl1, hcs1⟩ := HQ.out.l.elem (by show 0 < v.l.length; rw [HNL.out]; omega)
      obtain ⟨b2, o2, hd2, -, hbl2, hcs2⟩ := HP.out.l.elem (by show 0 < u.l.length; rw [HML.out]; omega)
      simp only at hd1 hd2
      subst hd1
      subst hd2
      obtain ⟨q1, hq1, hv1, hg1⟩ := hcs1 k x hx
      obtain ⟨q2, hq2, hv2, hg2⟩ := hcs2 k y hy
      clear hcs1 hcs2
      have hg := HTr.out.g
      obtain ⟨c0, c1, c2, c3, c4, c5⟩ := hg1.through (hg.block _ hbl1)
      obtain ⟨d0, d1, d2, d3, d4, d5⟩ := hg2.through (hg.block _ hbl2)
      have a4 := HTr.out.a.c4
      have b4 := HTr.out.b.c4
      simp only [HNL.out, HML.out] at a4 b4
      have r1 : (0 : Int) ≤ (k : Int) := by omega
      have r2 : (k : Int) < (nl : Int) := by omega
      have r3 : (k : Int) < (ml : Int) := by omega
      have r4 : (k : Int).toNat = k := rfl
      have hih := IH.out q1 q2 wr.drew (by rw [hq1]; exact V.lt_l (List.mem_of_getElem? hx)) ((hv1.keep hg).keep (Gx.drewN_below wr 1 _)) ((hv2.keep hg).keep (Gx.drewN_below wr 1 _))
      simp only [Loc.val] at hih
      have HIH := Lib.hid hih
      have HX : Hid (v.l[k]? = some q1.v) := Lib.hid (by rw [hx, hq1])
      have HY : Hid (u.l[k]? = some q2.v) := Lib.hid (by rw [hy, hq2])
      clear hx hy hq1 hq2 hv1 hv2 hg1 hg2 hg hih
      go_upto_region 6 with fail
      go_still_tail 10, (by kernel_rfl)
      change wpList _ _ _ _ _ wr.drew
      have HTd := Lib.hid (HTr.out.keep (Gx.drewN_below wr 1 _))
      generalize hwd : wr.drew = wd at HIH ⊢
      have HTd' : Hid (Two w ⟨v, some ⟨b1, o1, none⟩, cap, bd, dap⟩ ⟨u, some ⟨b2, o2, none⟩, cap', bd', dap'⟩ wd) := Lib.hid (by rw [← hwd]; exact HTd.out)
      clear hwd HTd HTr c0 c1 c2 c3 c4 c5 d0 d1 d2 d3 d4 d5 a4 b4
      go_wp2_with fail
      (with_reducible refine HIH.out.mono ?_)
      rintro e w3 ⟨b, rfl, hb, hbel⟩
      have HT3 := Lib.hid (HTd'.out.keep hbel)
      clear hbel HTd'
      cases b with
      | false =>
        have hne : v ≠ u := fun e => by
          have h1 := HX.out
          rw [e, HY.out] at h1
          have := hb.2 (Option.some.inj h1).symm
          cases this
        have HN := Lib.hid (NO.out _ hne HT3.out.g)
        clear hb hne
        go_wp2_with fail
        try go_ret
        exact HN.out
      | true =>
        have HU2 := Lib.hid (upTo_succ HU.out (by rw [HX.out, HY.out, hb.1 rfl]))
        clear hb
        go_wp2_with fail
        go_roundw
        case rel => exact ⟨k + 1, by omega, by go_num, HT3, HU2⟩
        case measure => simp [intOf]; omega
    · obtain rfl : k = nl := by omega
      have HLL : Hid (v.l = u.l) := Lib.hid (by have h := HU.out; rw [← HNL.out] at h; exact upTo_all h (by rw [HNL.out, HML.out]; exact E5.out))
      have a5 := HTr.out.a.c5
      simp only [HNE.out] at a5
      obtain ⟨wo, hwo⟩ : ∃ wo : World, wo = wr := ⟨_, rfl⟩
      rw [← hwo] at HTr a5 ⊢
      clear hwo wr HU hlt hk
      go_wp2_with fail
      clear a5
      go_loopw [73] (fun v73 wr => ∃ j : Nat, j ≤ ne ∧ v73 = .int .i64 j ∧ Hid (Two w ⟨v, ad, cap, bd, dap⟩ ⟨u, ad', cap', bd', dap'⟩ wr) ∧ Hid (upTo j v.e u.e)) (fun v73 _ => ne - (intOf v73).toNat)
      case atStart => exact ⟨0, Nat.zero_le _, rfl, HTr, Lib.hid (fun i hi => by omega)⟩
      case round =>
        obtain ⟨j, hj, rfl, HTq, HU⟩ := hrel
        clear HTr
        by_cases hlt : j < ne
        · have hlt2 : j < me := by have := E6.out; omega
          obtain ⟨x, hx⟩ : ∃ x, v.e[j]? = some x := ⟨_, List.getElem?_eq_getElem (by rw [HNE.out]; exact hlt)⟩
          obtain ⟨y, hy⟩ : ∃ y, u.e[j]? = some y := ⟨_, List.getElem?_eq_getElem (by rw [HME.out]; exact hlt2)⟩
          obtain ⟨b1, o1, hd1, -, hbl1, hcs1⟩ := HQ.out.e.entry (by show 0 < v.e.length; rw [HNE.out]; omega)
          obtain ⟨b2, o2, hd2, -, hbl2, hcs2⟩ := HP.out.e.entry (by show 0 < u.e.length; rw [HME.out]; omega)
          simp only at hd1 hd2
          subst hd1
          subst hd2
          obtain ⟨-, gk1, q1, hq1, hv1, hg1⟩ := hcs1 j x hx
          obtain ⟨-, gk2, q2, hq2, hv2, hg2⟩ := hcs2 j y hy
          clear hcs1 hcs2
          have hg := HTq.out.g
          have k1 : wr.cell? ⟨b1, o1 + j * 7, none⟩ = some (.string x.1) := (hg.cell (p := ⟨b1, _, none⟩) hbl1).trans gk1
          have k2 : wr.cell? ⟨b2, o2 + j * 7, none⟩ = some (.string y.1) := (hg.cell (p := ⟨b2, _, none⟩) hbl2).trans gk2
          obtain ⟨c0, c1, c2, c3, c4, c5⟩ := (hg1.through (hg.block _ hbl1)).seven
          obtain ⟨d0, d1, d2, d3, d4, d5⟩ := (hg2.through (hg.block _ hbl2)).seven
          have a5 := HTq.out.a.c5
          have b5 := HTq.out.b.c5
          simp only [HNE.out, HME.out] at a5 b5
          have r1 : (0 : Int) ≤ (j : Int) := by omega
          have r2 : (j : Int) < (ne : Int) := by omega
          have r3 : (j : Int) < (me : Int) := by omega
          have r4 : (j : Int).toNat = j := rfl
          have HX : Hid (v.e[j]? = some (x.1, q1.v)) := Lib.hid (by rw [hx, hq1])
          have HY : Hid (u.e[j]? = some (y.1, q2.v)) := Lib.hid (by rw [hy, hq2])
          by_cases hkk : x.1 = y.1
          · have hih := IH.out q1 q2 wr.drew (by rw [hq1]; exact V.lt_e (List.mem_of_getElem? hx)) ((hv1.keep hg).keep (Gx.drewN_below wr 1 _)) ((hv2.keep hg).keep (Gx.drewN_below wr 1 _))
            simp only [Loc.val] at hih
            have HIH := Lib.hid hih
            have t7 : (x.1.toList == y.1.toList) = true := by rw [hkk]; simp
            have HKK := Lib.hid hkk
            clear hx hy hq1 hq2 hv1 hv2 hg1 hg2 hg hih gk1 gk2 hkk
            go_upto_region 12 with fail
            go_still_tail 26, (by kernel_rfl)
            change wpList _ _ _ _ _ wr.drew
            have HTd := Lib.hid (HTq.out.keep (Gx.drewN_below wr 1 _))
            generalize hwd : wr.drew = wd at HIH ⊢
            have HTd' : Hid (Two w ⟨v, ad, cap, some ⟨b1, o1, none⟩, dap⟩ ⟨u, ad', cap', some ⟨b2, o2, none⟩, dap'⟩ wd) := Lib.hid (by rw [← hwd]; exact HTd.out)
            clear hwd HTd HTq c0 c1 c2 c3 c4 c5 d0 d1 d2 d3 d4 d5 a5 b5 k1 k2
            go_wp2_with fail
            (with_reducible refine HIH.out.mono ?_)
            rintro e w3 ⟨b, rfl, hb, hbel⟩
            have HT3 := Lib.hid (HTd'.out.keep hbel)
            clear hbel HTd'
            cases b with
            | false =>
              have hne : v ≠ u := fun e => by
                have h1 := HX.out
                rw [e, HY.out] at h1
                have := hb.2 (Prod.mk.inj (Option.some.inj h1)).2.symm
                cases this
              have HN := Lib.hid (NO.out _ hne HT3.out.g)
              clear hb hne
              go_wp2_with fail
              try go_ret
              exact HN.out
            | true =>
              have HU2 := Lib.hid (upTo_succ HU.out (by rw [HX.out, HY.out, hb.1 rfl, HKK.out]))
              clear hb
              go_wp2_with fail
              go_roundw
              case rel => exact ⟨j + 1, by omega, by go_num, HT3, HU2⟩
              case measure => simp [intOf]; omega
          · have t7 : (x.1.toList == y.1.toList) = false := by
              simp only [ByteArray.toList_eq, beq_eq_false_iff_ne, ne_eq]
              intro h; exact hkk (by cases hv : x.1; cases hu : y.1; rw [hv, hu] at h; congr 1; exact Array.toList_inj.1 h)
            have hne : v ≠ u := fun e => by
              have h1 := HX.out
              rw [e, HY.out] at h1
              exact hkk (Prod.mk.inj (Option.some.inj h1)).1.symm
            have HN := Lib.hid (fun n : Nat => NO.out (wr.drewN n) hne (HTq.out.g.trans (Gx.drewN_below wr n _)))
            clear hx hy hq1 hq2 hv1 hv2 hg1 hg2 hg gk1 gk2 hkk hne
            go_upto_region 12 with fail
            go_quiet (fail)
            go_wp2_with fail
            try go_ret
            exact HN.out nq
        · obtain rfl : j = ne := by omega
          have HEE : Hid (v.e = u.e) := Lib.hid (by have h := HU.out; rw [← HNE.out] at h; exact upTo_all h (by rw [HNE.out, HME.out]; exact E6.out))
          go_wp2_with fail
          try go_ret
          exact ⟨true, rfl, ⟨fun _ => HYES.out HLL.out HEE.out, fun _ => rfl⟩, HTq.out.g⟩
/-- alike, whatever two -/
theorem alike_any (q p : Loc) (w : World) (hq : VAt w (fun _ => True) q) (hp : VAt w (fun _ => True) p) : Calls Tryz.prog 16 #[q.val, p.val] w (AlikePost q.v p.v w) := by
  have key : ∀ (n : Nat) (q p : Loc) (w : World), SizeOf.sizeOf q.v ≤ n → VAt w (fun _ => True) q → VAt w (fun _ => True) p → Calls Tryz.prog 16 #[q.val, p.val] w (AlikePost q.v p.v w) := by
    intro n
    induction n with
    | zero => intro q p w h; cases q with | mk v _ _ _ _ => cases v; simp at h
    | succ n ih => exact fun q p w h hq hp => alike_step q.v p.v q.ad q.bd p.ad p.bd q.cap q.dap p.cap p.dap w hq hp (fun q' p' w' h' hq' hp' => ih q' p' w' (by omega) hq' hp')
  exact key _ q p w (Nat.le_refl _) hq hp
end Go.Proofs.YtldhmfkojaekfaaGreatDoor
namespace Go.Proofs.YtldhmfkojaekfaaGreatDoor
open Go.RowKit Gx
set_option maxRecDepth 100000
theorem one_root : rootN [49] = .mk 1 0 1 [] := by kernel_rfl
theorem one_parse : (parseS (treeX [49])).bad = 0 := by kernel_rfl
theorem one_mean : meanN (treeX [49]) 21 (rootN [49]) = .ok (.mk 2 1 0 ⟨#[]⟩ [] []) := by
  rw [one_root, meanN, if_neg (show ¬ (Nd.mk 1 0 1 []).k = 5 by decide), if_neg (show ¬ (Nd.mk 1 0 1 []).k = 3 by decide)]
  have hk : (treeX [49]).kind 0 = 4 := by kernel_rfl
  have hb : (treeX [49]).bytes 0 = [49] := by kernel_rfl
  have hr : readOf [49] = (1, 0) := by kernel_rfl
  have hl : leafOf 4 [49] = some (.mk 2 1 0 ⟨#[]⟩ [] []) := by
    unfold leafOf wordOf
    rw [hr]
    rfl
  show leafN (treeX [49]) 0 = _
  unfold leafN
  rw [hk, hb, hl]
theorem own_one : ownV (.mk 2 1 0 ⟨#[]⟩ [] []) = 0 := by
  unfold ownV ownE
  have h : kindBad 2 1 0 ⟨#[]⟩ 0 0 = false := by
    unfold kindBad nanBad
    rw [ByteArray.toList_eq]
    rfl
  have h1 : kindBad (V.mk 2 1 0 ⟨#[]⟩ [] []).k (V.mk 2 1 0 ⟨#[]⟩ [] []).n (V.mk 2 1 0 ⟨#[]⟩ [] []).f (V.mk 2 1 0 ⟨#[]⟩ [] []).s (V.mk 2 1 0 ⟨#[]⟩ [] []).l.length (V.mk 2 1 0 ⟨#[]⟩ [] []).e.length = false := h
  rw [h1, if_neg (by decide), if_neg (by show ¬ (4000 < 0 ∨ 200 < 0 ∨ 200 < 0); decide)]
  have h2 : okText (V.mk 2 1 0 ⟨#[]⟩ [] []).s.data.toList := okText_nil
  rw [if_pos h2]
theorem one_chk : chkV (.mk 2 1 0 ⟨#[]⟩ [] []) = 0 := by
  unfold chkV
  have e : (V.mk 2 1 0 ⟨#[]⟩ [] []).parts = [] := rfl
  have e2 : keyE none (V.mk 2 1 0 ⟨#[]⟩ [] []).e = 0 := rfl
  simp only [chk]
  rw [if_neg (by decide), if_neg (by simp [own_one]), if_neg (by simp [e2]), e]
  rfl
def BoolPostM (b : Bool) (w : World) (e : Ending) (w' : World) : Prop := e = .returned (.bool b) ∧ Below w.heap.size w w'
set_option maxHeartbeats 2000000 in
theorem means_any (w : World) (hT : MTabs w) : Calls Tryz.prog 14 #[] w (BoolPostM true w) := by
  have HM := Lib.hid (mean_any ⟨#[49]⟩ w hT)
  unfold MeanPost at HM
  clear hT
  go_enter Tryz.func14, Tryz.ntmps14
  go_wp2_with fail
  (with_reducible refine HM.out.mono ?_)
  rintro e w1 ⟨hb1, ⟨q, hq, rfl, hv⟩ | ⟨a, c, hbad, -, -⟩⟩
  rotate_left
  · exfalso
    rcases hbad with ⟨h, -⟩ | ⟨-, h, -⟩ | ⟨-, -, ⟨f, h, -⟩ | ⟨v, h, h2, -⟩⟩
    · revert h; decide
    · exact h one_parse
    · have h' : meanN (treeX [49]) 21 (rootN [49]) = .error f := h
      rw [one_mean] at h'; cases h'
    · have h' : meanN (treeX [49]) 21 (rootN [49]) = .ok v := h
      rw [one_mean] at h'
      rw [← Except.ok.inj h'] at h2
      exact h2 one_chk
  have hn : q.v.n = 1 := by
    have h' : meanN (treeX [49]) 21 (rootN [49]) = .ok q.v := hq.2.2.1
    rw [one_mean] at h'
    rw [← Except.ok.inj h']; rfl
  have t1 : (q.v.n == 1) = true := by rw [hn]; rfl
  have HB := Lib.hid hb1
  unfold Loc.val
  clear hq hv hb1 HM hn
  go_wp2_with fail
  try go_ret
  exact ⟨rfl, HB.out.alloc HB.out.size _⟩
/-- a fault lies within the text -/
theorem place_le {X : TS} (hp : ∀ i, X.pos i ≤ X.l.length) : ∀ (d : Nat) (n : Nd) (f : Flt), meanN X d n = .error f → f.1 ≤ X.l.length
  | 0, n, f, h => by rw [← Except.error.inj h]; exact Nat.zero_le _
  | d + 1, n, f, h => by
    have ih := place_le hp d
    have hl : ∀ (ks : List Nd) (acc : List V) (f : Flt), listN (meanN X d) acc ks = .error f → f.1 ≤ X.l.length := by
      intro ks
      induction ks with
      | nil => intro acc f h; cases h
      | cons x r ihr =>
        intro acc f h
        rw [listN] at h
        cases hx : meanN X d x with
        | error g => rw [hx] at h; rw [← Except.error.inj h]; exact ih x g hx
        | ok v => rw [hx] at h; exact ihr _ f h
    have ht : ∀ (ks : List Nd) (acc : List (ByteArray × V)) (f : Flt), tableN X (meanN X d) acc ks = .error f → f.1 ≤ X.l.length := by
      intro ks
      induction ks with
      | nil => intro acc f h; cases h
      | cons x r ihr =>
        intro acc f h
        rw [tableN] at h
        cases hk : keyN X (x.kids.getD 0 Nd.none).a acc with
        | error g =>
          rw [hk] at h
          rw [← Except.error.inj h]
          unfold keyN at hk
          split at hk
          · rw [← Except.error.inj hk]; exact hp _
          · split at hk
            · rw [← Except.error.inj hk]; exact hp _
            · cases hk
        | ok s =>
          rw [hk] at h
          simp only [] at h
          cases hx : meanN X d (x.kids.getD 1 Nd.none) with
          | error g => rw [hx] at h; rw [← Except.error.inj h]; exact ih _ g hx
          | ok v => rw [hx] at h; exact ihr _ f h
    rw [meanN] at h
    split at h
    · cases hx : listN (meanN X d) [] n.kids with
      | ok l => rw [hx] at h; cases h
      | error g => rw [hx] at h; rw [← Except.error.inj h]; exact hl _ _ g hx
    · split at h
      · cases hx : tableN X (meanN X d) [] n.kids with
        | ok l => rw [hx] at h; cases h
        | error g => rw [hx] at h; rw [← Except.error.inj h]; exact ht _ _ g hx
      · unfold leafN at h
        split at h
        · cases h
        · rw [← Except.error.inj h]; exact hp _
theorem treeX_pos (l : List UInt8) (i : Nat) : (treeX l).pos i ≤ l.length := by
  by_cases h : i < (treeX l).T.length
  · exact Nat.le_of_lt (treeX_tok l i h).2.2.1
  · unfold TS.pos
    rw [List.getElem?_eq_none (by omega)]
    exact Nat.le_refl _
/-- where a reader has failed -/
theorem fail_wh {X : TS} {L : Nat} (hp : ∀ i, X.pos i ≤ L) (e : Int) (s : PS) (h : s.wh ≤ L) : (s.fail X e).wh ≤ L := by
  unfold PS.fail
  split
  · exact h
  · exact hp _
theorem leaf_wh {X : TS} {L : Nat} (hp : ∀ i, X.pos i ≤ L) (k : Int) (s : PS) (h : s.wh ≤ L) : (leafS X k s).1.wh ≤ L := by
  unfold leafS
  split
  · exact h
  · exact fail_wh hp 4 _ h
theorem many_wh {X : TS} {L : Nat} (hp : ∀ i, X.pos i ≤ L) {kid : PS → PS × Nd} (hk : ∀ s : PS, s.wh ≤ L → (kid s).1.wh ≤ L) (e : UInt8) : ∀ (f : Nat) (s : PS) (ks : List Nd), s.wh ≤ L → (manyS X kid e f s ks).1.wh ≤ L
  | 0, s, ks, h => fail_wh hp 4 s h
  | f + 1, s, ks, h => by
    have h1 : ((kid (s.skip X)).1.skip X).wh ≤ L := hk (s.skip X) h
    unfold manyS
    split
    · exact h
    · split
      · exact many_wh hp hk e f _ _ h1
      · split
        · exact many_wh hp hk e f _ _ h1
        · exact many_wh hp hk e f _ _ (fail_wh hp 4 _ h1)
theorem colon_wh {X : TS} {L : Nat} (hp : ∀ i, X.pos i ≤ L) (s : PS) (h : s.wh ≤ L) : (colonS X s).wh ≤ L := by
  unfold colonS
  split
  · exact fail_wh hp 4 _ h
  · exact h
theorem entry_wh {X : TS} {L : Nat} (hp : ∀ i, X.pos i ≤ L) {val : PS → PS × Nd} (hv : ∀ s : PS, s.wh ≤ L → (val s).1.wh ≤ L) (s : PS) (h : s.wh ≤ L) : (entryS X val s).1.wh ≤ L := by
  have h1 := colon_wh hp ((leafS X 2 s).1.skip X) (leaf_wh hp 2 s h)
  unfold entryS
  split
  · exact h1
  · exact hv _ h1
theorem value_wh {X : TS} {L : Nat} (hp : ∀ i, X.pos i ≤ L) : ∀ (r : Nat) (s : PS), s.wh ≤ L → (valueS X r s).1.wh ≤ L
  | 0, s, h => by
    unfold valueS
    split
    · exact fail_wh hp 5 _ h
    · exact leaf_wh hp 1 _ h
  | r + 1, s, h => by
    unfold valueS
    split
    · exact many_wh hp (fun u hu => entry_wh hp (fun v hv => value_wh hp r v hv) u hu) 125 X.F _ [] h
    · split
      · exact many_wh hp (fun u hu => value_wh hp r u hu) 93 X.F _ [] h
      · exact leaf_wh hp 1 _ h
theorem parse_wh (l : List UInt8) : (parseS (treeX l)).wh ≤ l.length := by
  have h := value_wh (X := treeX l) (treeX_pos l) 20 ⟨0, 0, 0⟩ (Nat.zero_le _)
  unfold parseS endS
  split
  · exact fail_wh (treeX_pos l) 4 _ h
  · exact h
theorem bad_le {l : List UInt8} {a : Nat} {c : Int} (h : MeanBad l a c) : a ≤ l.length := by
  rcases h with ⟨-, rfl, -⟩ | ⟨-, -, rfl, -⟩ | ⟨-, -, ⟨f, h, rfl, -⟩ | ⟨v, -, -, rfl, -⟩⟩
  · exact Nat.zero_le _
  · exact parse_wh l
  · exact place_le (X := treeX l) (treeX_pos l) 21 _ f h
  · exact Nat.zero_le _
set_option maxHeartbeats 8000000 in
theorem meanGood_walk (s : ByteArray) (w : World) (hT : MTabs w) : Calls Tryz.prog 4 #[.string s] w (BoolPostM true w) := by
  have HMS := Lib.hid (means_any w hT)
  have HT := Lib.hid hT
  clear hT
  unfold BoolPostM at HMS
  go_enter Tryz.func4, Tryz.ntmps4
  go_wp2_with fail
  (with_reducible refine HMS.out.mono ?_)
  rintro e w1 ⟨rfl, hb1⟩
  have hm := mean_any s w1 (HT.out.keep hb1)
  unfold MeanPost at hm
  have HM := Lib.hid hm
  have HB1 := Lib.hid hb1
  clear hm hb1 HMS
  go_wp2_with fail
  (with_reducible refine HM.out.mono ?_)
  rintro e w2 ⟨hb2, ⟨q, hq, rfl, hv⟩ | ⟨a, c, hbad, hc, rfl⟩⟩
  · have hba := hb2.alloc hb2.size (.cells #[.int .i64 q.v.k, .int .i64 q.v.n, .int .u64 q.v.f, .string q.v.s, .slice q.ad q.v.l.length q.cap, .slice q.bd q.v.e.length q.dap] 26)
    have hbx := heap_alloc_new w2 (.cells #[.int .i64 q.v.k, .int .i64 q.v.n, .int .u64 q.v.f, .string q.v.s, .slice q.ad q.v.l.length q.cap, .slice q.bd q.v.e.length q.dap] 26)
    have hbw := HB1.out.trans (hba.mono HB1.out.size)
    have hck := Check_any q _ (HT.out.e.u.keep hbw) ((hv.weak (fun _ _ _ => trivial)).keep ((Below.refl w2.heap.size w2).alloc (Nat.le_refl _) (.cells #[.int .i64 q.v.k, .int .i64 q.v.n, .int .u64 q.v.f, .string q.v.s, .slice q.ad q.v.l.length q.cap, .slice q.bd q.v.e.length q.dap] 26)))
    unfold YtldhmfkojaekfaaGreatDoor.CheckPost at hck
    rw [hq.2.2.2] at hck
    unfold Loc.val at hck ⊢
    have HCK := Lib.hid hck
    have HBW := Lib.hid hbw
    clear hb2 hba hbw hck hv hq HM HB1
    go_upto_region 4 with fail
    generalize hwx : World.alloc w2 _ = w3 at hbx HCK HBW ⊢
    clear hwx
    obtain ⟨x0, x1, x2, x3, x4, x5, -⟩ := six_cells hbx
    go_wp2_with fail
    (with_reducible refine HCK.out.mono ?_)
    rintro e w4 ⟨rfl, hb4⟩
    have HB4 := Lib.hid (HBW.out.trans (hb4.mono HBW.out.size))
    clear hb4 HCK x0 x1 x2 x3 x4 x5
    rw [show ((0 : Nat) : Int) = 0 from rfl]
    go_wp2_with fail
    try go_ret
    exact ⟨rfl, HB4.out⟩
  · have hba := hb2.alloc hb2.size (.cells #[.int .i64 0, .int .i64 0, .int .u64 0, .string ⟨#[]⟩, .slice none 0 0, .slice none 0 0] 26)
    have hbx := heap_alloc_new w2 (.cells #[.int .i64 0, .int .i64 0, .int .u64 0, .string ⟨#[]⟩, .slice none 0 0, .slice none 0 0] 26)
    have hbw := HB1.out.trans (hba.mono HB1.out.size)
    have hal := alike_any ⟨.zero, none, 0, none, 0⟩ ⟨.zero, none, 0, none, 0⟩ (w2.alloc (.cells #[.int .i64 0, .int .i64 0, .int .u64 0, .string ⟨#[]⟩, .slice none 0 0, .slice none 0 0] 26)) (VAt.zero _ _ _ _ _ _) (VAt.zero _ _ _ _ _ _)
    have HAL : Hid (Calls Tryz.prog 16 #[.agg #[.int .i64 0, .int .i64 0, .int .u64 0, .string ⟨#[]⟩, .slice none 0 0, .slice none 0 0], .agg #[.int .i64 0, .int .i64 0, .int .u64 0, .string ⟨#[]⟩, .slice none 0 0, .slice none 0 0]] (w2.alloc (.cells #[.int .i64 0, .int .i64 0, .int .u64 0, .string ⟨#[]⟩, .slice none 0 0, .slice none 0 0] 26)) (AlikePost V.zero V.zero (w2.alloc (.cells #[.int .i64 0, .int .i64 0, .int .u64 0, .string ⟨#[]⟩, .slice none 0 0, .slice none 0 0] 26)))) := Lib.hid hal
    unfold AlikePost at HAL
    have hle : a ≤ s.size := by rw [Lib.size_eq]; exact bad_le hbad
    have t1 : (c != 0) = true := by simpa using hc
    have t2 : decide ((0 : Int) ≤ (a : Int)) = true := decide_eq_true (by omega)
    have t3 : decide ((a : Int) ≤ (s.size : Int)) = true := decide_eq_true (by omega)
    have t4 : decide (a ≤ s.size) = true := decide_eq_true hle
    have HBW := Lib.hid hbw
    clear hb2 hba hbw hal hbad HM HB1 hc
    go_upto_region 4 with fail
    generalize hwx : World.alloc w2 _ = w3 at hbx HAL HBW ⊢
    clear hwx
    obtain ⟨x0, x1, x2, x3, x4, x5, -⟩ := six_cells hbx
    go_wp2_with fail
    (with_reducible refine HAL.out.mono ?_)
    rintro e w4 ⟨b, rfl, hb, hb4⟩
    obtain rfl : b = true := hb.2 (by first | rfl | trivial)
    have HB4 := Lib.hid (HBW.out.trans (hb4.mono HBW.out.size))
    clear hb4 hb HAL x0 x1 x2 x3 x4 x5
    go_wp2_with fail
    try go_ret
    exact ⟨rfl, HB4.out⟩
end Go.Proofs.YtldhmfkojaekfaaGreatDoor
namespace Go.Proofs.YtldhmfkojaekfaaGreatDoor
open Go.RowKit Gx
theorem tab_of_reads {P : Program} {W : World} {name : String} {k : IntKind} {zs : List Int} {g : Nat} {t e : TypeId} {n : Nat}
    (hg : P.globalNamed name = some g) (hty : (P.globals[g]?).map (·.type) = some t) (ht : P.underlying t = some (.array n e)) (he : P.underlying e = some (.int k)) (hce : P.cellsOf e = 1) (hct : P.cellsOf t = n)
    (h : Lib.VarReads P W name (Lib.tabData k zs)) : Lib.TabIs P W name k zs := by
  obtain ⟨g', t', cs, fuel, p, hg', ht', hvar, hd⟩ := h
  obtain rfl := Option.some.inj (hg.symm.trans hg')
  obtain rfl := Option.some.inj (hty.symm.trans ht')
  unfold Lib.TabIs
  rw [hvar, ← Lib.cells_of_tab ht he hce hct hd]

def deB64 : List Int := [0, 1, 56, 2, 57, 49, 28, 3, 61, 58, 42, 50, 38, 29, 17, 4, 62, 47, 59, 36, 45, 43, 51, 22, 53, 39, 33, 30, 24, 18, 12, 5, 63, 55, 48, 27, 60, 41, 37, 16, 46, 35, 44, 21, 52, 32, 23, 11, 54, 26, 40, 15, 34, 20, 31, 10, 25, 14, 19, 9, 13, 8, 7, 6]

theorem err_of_reads {P : Program} {W : World} {name nm : String} {d : DataW Unit} {g : Nat} {t : TypeId} {ms : Array (String × TypeId)}
    (hg : P.globalNamed name = some g) (hty : (P.globals[g]?).map (·.type) = some t) (ht : P.underlying t = some (.interface ms)) (h : Lib.VarReads P W name (.iface nm d)) : ∃ te pe, W.cell? ⟨g, 0, none⟩ = some (.iface te pe) := by
  obtain ⟨g', t', cs, fuel, p, hg', ht', hvar, hd⟩ := h
  obtain rfl := Option.some.inj (hg.symm.trans hg')
  obtain rfl := Option.some.inj (hty.symm.trans ht')
  obtain ⟨f2, u, v, hcs, -, -⟩ := iface_of_trod ht hd
  obtain ⟨l⟩ := cs
  have hl : l = [.iface u v] := hcs
  subst hl
  exact ⟨u, v, by simpa using World.var?_cell hg hvar 0⟩

theorem meanGood_tabs {W : World} (hL : laidMetH Tryz.prog Rows.meanGoodRow.laid W) (hsh : W.ShapedOpen Tryz.prog) : MTabs W := by
  have h2 := Lib.laidMet.reads hL (.tail _ (.head _))
  have h3 := Lib.laidMet.reads hL (.tail _ (.tail _ (.head _)))
  have h4 := Lib.laidMet.reads hL (.tail _ (.tail _ (.tail _ (.head _))))
  have h6 := Lib.laidMet.reads hL (.tail _ (.tail _ (.tail _ (.tail _ (.tail _ (.head _))))))
  have h7 := Lib.laidMet.reads hL (.tail _ (.tail _ (.tail _ (.tail _ (.tail _ (.tail _ (.head _)))))))
  have e2 : Rows.laid_math_bits_deBruijn64tab = Lib.tabData (H := Unit) .u8 deB64 := by kernel_rfl
  have e3 : Rows.laid_internal_strconv_uint64pow10 = Lib.tabData (H := Unit) .u64 Lib.pow10Tab := by kernel_rfl
  rw [e2] at h2
  rw [e3] at h3
  have t2 := tab_of_reads (g := 7) (t := (Tryz.prog.globals[7]!).type) (by kernel_rfl) (by kernel_rfl) (n := 64) (e := 5) (by kernel_rfl) (by kernel_rfl) (by kernel_rfl) (by kernel_rfl) h2
  have t3 := tab_of_reads (g := 3) (t := (Tryz.prog.globals[3]!).type) (by kernel_rfl) (by kernel_rfl) (n := 20) (e := 22) (by kernel_rfl) (by kernel_rfl) (by kernel_rfl) (by kernel_rfl) h3
  have hU := Go.Proofs.utf8Tabs_of_reads Tryz.lays260 ⟨by kernel_rfl, by kernel_rfl, by kernel_rfl, by kernel_rfl, by kernel_rfl, by kernel_rfl, by kernel_rfl⟩
    (w := W) (Pinned.utf8First_eq ▸ h7) ((show Rows.laid_unicode_utf8_acceptRanges = Lib.acceptData by kernel_rfl) ▸ h4)
  exact ⟨⟨hU, ⟨⟨t2.cell (g := 7) (by kernel_rfl) 1 (by decide), t2.cell (g := 7) (by kernel_rfl) 7 (by decide), t2.cell (g := 7) (by kernel_rfl) 15 (by decide)⟩, t3⟩,
    err_of_reads (t := (Tryz.prog.globals[4]!).type) (by kernel_rfl) (by kernel_rfl) Tryz.underlying79 h6⟩, Tryz.laysM143.s1_3 W hsh⟩
end Go.Proofs.YtldhmfkojaekfaaGreatDoor
