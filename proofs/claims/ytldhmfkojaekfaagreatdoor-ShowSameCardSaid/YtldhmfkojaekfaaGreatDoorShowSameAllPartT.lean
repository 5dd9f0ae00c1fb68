/-
  The contract of alike: two values are one. No conditions.
  The contracts of cmp.Compare, cmp.Or, rank. No conditions.
  The contracts of slices.CompareFunc over values and over entries. No conditions.
  The contract of slices.CompareFunc over entries. No conditions.
  The contract of val.Compare. No conditions.
  Compare answers nought just for the same value, plainly. No conditions.
-/
import Derived.Test.YtldhmfkojaekfaaGreatDoorProg
import Derived.Deep.DeepCutAuto
import Derived.Deep.CutBlock
import Derived.Deep.DeepFit
import Derived.Outline
import Derived.WalkLawsBesides
import Derived.StillTailTactics
import Derived.Deep.RegionHeld3
import Derived.Test.YtldhmfkojaekfaaGreatDoorShowSameAllPartS
namespace Go.Proofs.YtldhmfkojaekfaaGreatDoor
open Go.RowKit Gx
set_option maxRecDepth 100000

def AlikePost (v u : V) (w : World) (e : Ending) (w' : World) : Prop := ∃ b : Bool, e = .returned (.bool b) ∧ (b = true ↔ v = u) ∧ Below w.heap.size w w'
/-- two lists agree up to k -/
def upTo {α : Type} (k : Nat) (a b : List α) : Prop := ∀ i, i < k → a[i]? = b[i]?
theorem upTo_succ {α : Type} {k : Nat} {a b : List α} (h : upTo k a b) (hk : a[k]? = b[k]?) : upTo (k + 1) a b := fun i hi => by
  by_cases e : i = k
  · rw [e]; exact hk
  · exact h i (by omega)
theorem upTo_all {α : Type} {a b : List α} (h : upTo a.length a b) (hl : a.length = b.length) : a = b := by
  apply List.ext_getElem?
  intro i
  by_cases hi : i < a.length
  · exact h i hi
  · rw [List.getElem?_eq_none (by omega), List.getElem?_eq_none (by omega)]
/-- the two boxes -/
structure Two (w : World) (q p : Loc) (W : World) : Prop where
  a : CellsAt W w.heap.size 0 q
  b : CellsAt W (w.heap.size + 1) 0 p
  g : Below w.heap.size w W
  s : w.heap.size + 2 ≤ W.heap.size
theorem Two.start (q p : Loc) (w : World) : Two w q p ((w.alloc (.cells #[.int .i64 q.v.k, .int .i64 q.v.n, .int .u64 q.v.f, .string q.v.s, .slice q.ad q.v.l.length q.cap, .slice q.bd q.v.e.length q.dap] 26)).alloc
    (.cells #[.int .i64 p.v.k, .int .i64 p.v.n, .int .u64 p.v.f, .string p.v.s, .slice p.ad p.v.l.length p.cap, .slice p.bd p.v.e.length p.dap] 26)) := by
  refine ⟨?_, ?_, ((Below.refl _ w).alloc (Nat.le_refl _) _).alloc (by simp) _, by simp⟩
  · refine CellsAt.box (ty := 26) ?_
    rw [Below.heap_alloc _ _ _ (by simp)]
    exact heap_alloc_new w _
  · refine CellsAt.box (ty := 26) ?_
    have := heap_alloc_new (w.alloc (.cells #[.int .i64 q.v.k, .int .i64 q.v.n, .int .u64 q.v.f, .string q.v.s, .slice q.ad q.v.l.length q.cap, .slice q.bd q.v.e.length q.dap] 26)) (.cells #[.int .i64 p.v.k, .int .i64 p.v.n, .int .u64 p.v.f, .string p.v.s, .slice p.ad p.v.l.length p.cap, .slice p.bd p.v.e.length p.dap] 26)
    rwa [World.size_alloc] at this
theorem Two.keep {w : World} {q p : Loc} {W W' : World} (h : Two w q p W) (hb : Below W.heap.size W W') : Two w q p W' := by
  have hs := h.s
  exact ⟨h.a.through (hb.block _ (by omega)), h.b.through (hb.block _ (by omega)), h.g.trans (hb.mono h.g.size), by have := hb.size; omega⟩

set_option maxHeartbeats 8000000 in
theorem alike_step (v u : V) (ad bd ad' bd' : Option Addr) (cap dap cap' dap' : Nat) (w : World) (hq : VAt w (fun _ => True) ⟨v, ad, cap, bd, dap⟩) (hp : VAt w (fun _ => True) ⟨u, ad', cap', bd', dap'⟩)
    (ih : ∀ (q p : Loc) (w : World), SizeOf.sizeOf q.v < SizeOf.sizeOf v → VAt w (fun _ => True) q → VAt w (fun _ => True) p → Calls Tryz.prog 16 #[q.val, p.val] w (AlikePost q.v p.v w)) :
    Calls Tryz.prog 16 #[.agg #[.int .i64 v.k, .int .i64 v.n, .int .u64 v.f, .string v.s, .slice ad v.l.length cap, .slice bd v.e.length dap], .agg #[.int .i64 u.k, .int .i64 u.n, .int .u64 u.f, .string u.s, .slice ad' u.l.length cap', .slice bd' u.e.length dap']] w (AlikePost v u w) := by
  have HT := Lib.hid (Two.start ⟨v, ad, cap, bd, dap⟩ ⟨u, ad', cap', bd', dap'⟩ w)
  simp only at HT
  have HQ := Lib.hid hq
  have HP := Lib.hid hp
  have IH := Lib.hid ih
  have hl1 := hq.l.lbound
  have he1 := hq.e.ebound
  have hl2 := hp.l.lbound
  have he2 := hp.e.ebound
  simp only at hl1 he1 hl2 he2
  clear hq hp ih
  have no : ∀ W : World, v ≠ u → Below w.heap.size w W → AlikePost v u w (.returned (.bool false)) W := fun W h hb => ⟨false, rfl, ⟨fun e => by simp at e, fun e => absurd e h⟩, hb⟩
  have NO := Lib.hid no
  clear no
  have fl1 : ∀ a b : Nat, a ≠ b → ((a : Int) != (b : Int)) = true := fun a b h => by simp; omega
  have fl2 : ∀ a b : Nat, a ≠ b → (a != b) = true := fun a b h => by simp [h]
  have FL1 := Lib.hid fl1
  have FL2 := Lib.hid fl2
  clear fl1 fl2
  go_enter Tryz.func16, Tryz.ntmps16
  go_upto_region 1 with fail
  generalize hw2 : World.alloc (World.alloc w _) _ = w2 at HT ⊢
  clear hw2
  obtain ⟨a0, a1, a2, a3, a4, a5⟩ := HT.out.a
  obtain ⟨b0, b1, b2, b3, b4, b5⟩ := HT.out.b
  simp only at a0 a1 a2 a3 a4 a5 b0 b1 b2 b3 b4 b5
  by_cases e1 : v.k = u.k
  rotate_left
  · have t1 : (v.k != u.k) = true := by simpa using e1
    have HN := Lib.hid (NO.out _ (fun h => e1 (by rw [h])) HT.out.g)
    clear e1
    go_wp2_with fail
    try go_ret
    exact HN.out
  have t1 : (v.k != u.k) = false := by simpa using e1
  by_cases e2 : v.n = u.n
  rotate_left
  · have t2 : (v.n != u.n) = true := by simpa using e2
    have HN := Lib.hid (NO.out _ (fun h => e2 (by rw [h])) HT.out.g)
    clear e1 e2
    go_wp2_with fail
    try go_ret
    exact HN.out
  have t2 : (v.n != u.n) = false := by simpa using e2
  by_cases e3 : v.f = u.f
  rotate_left
  · have t3 : (v.f != u.f) = true := by simpa using e3
    have HN := Lib.hid (NO.out _ (fun h => e3 (by rw [h])) HT.out.g)
    clear e1 e2 e3
    go_wp2_with fail
    try go_ret
    exact HN.out
  have t3 : (v.f != u.f) = false := by simpa using e3
  by_cases e4 : v.s = u.s
  rotate_left
  · have t4 : (v.s.toList == u.s.toList) = false := by
      simp only [ByteArray.toList_eq, beq_eq_false_iff_ne, ne_eq]
      intro h; exact e4 (by cases hv : v.s; cases hu : u.s; rw [hv, hu] at h; congr 1; exact Array.toList_inj.1 h)
    have HN := Lib.hid (NO.out _ (fun h => e4 (by rw [h])) HT.out.g)
    clear e1 e2 e3 e4
    go_wp2_with fail
    try go_ret
    exact HN.out
  have t4 : (v.s.toList == u.s.toList) = true := by rw [e4]; simp
  by_cases e5 : v.l.length = u.l.length
  rotate_left
  · have t5 := FL1.out _ _ e5
    have t5' := FL2.out _ _ e5
    have HN := Lib.hid (NO.out _ (fun h => e5 (by rw [h])) HT.out.g)
    clear e1 e2 e3 e4 e5
    go_wp2_with fail
    try go_ret
    exact HN.out
  by_cases e6 : v.e.length = u.e.length
  rotate_left
  · have t5 : ((v.l.length : Int) != (u.l.length : Int)) = false := by simp [e5]
    have t5' : (v.l.length != u.l.length) = false := by simp [e5]
    have t6 := FL1.out _ _ e6
    have t6' := FL2.out _ _ e6
    have HN := Lib.hid (NO.out _ (fun h => e6 (by rw [h])) HT.out.g)
    clear e1 e2 e3 e4 e5 e6
    go_wp2_with fail
    try go_ret
    exact HN.out
  have HYES : Hid (v.l = u.l → v.e = u.e → v = u) := Lib.hid (fun x y => V.ext' e1 e2 e3 e4 x y)
  have t5 : ((v.l.length : Int) != (u.l.length : Int)) = false := by simp [e5]
  have t5' : (v.l.length != u.l.length) = false := by simp [e5]
  have t6 : ((v.e.length : Int) != (u.e.length : Int)) = false := by simp [e6]
  have t6' : (v.e.length != u.e.length) = false := by simp [e6]
  have E5 := Lib.hid e5
  have E6 := Lib.hid e6
  clear e1 e2 e3 e4 e5 e6
  obtain ⟨nl, hnl⟩ : ∃ nl, v.l.length = nl := ⟨_, rfl⟩
  obtain ⟨ne, hne⟩ : ∃ ne, v.e.length = ne := ⟨_, rfl⟩
  obtain ⟨ml, hml⟩ : ∃ ml, u.l.length = ml := ⟨_, rfl⟩
  obtain ⟨me, hme⟩ : ∃ me, u.e.length = me := ⟨_, rfl⟩
  rw [hnl] at a4 t5 t5' hl1 E5
  rw [hml] at b4 t5 t5' hl2 E5
  rw [hne] at a5 t6 t6' he1 E6
  rw [hme] at b5 t6 t6' he2 E6
  rw [hnl, hml, hne, hme]
  have HNL := Lib.hid hnl
  have HNE := Lib.hid hne
  have HML := Lib.hid hml
  have HME := Lib.hid hme
  clear hnl hne hml hme
  go_wp2_with fail
  clear t1 t2 t3 t4 t5 t5' t6 t6' a0 a1 a2 a3 a4 a5 b0 b1 b2 b3 b4 b5
  go_loopw [54] (fun v54 wr => ∃ k : Nat, k ≤ nl ∧ v54 = .int .i64 k ∧ Hid (Two w ⟨v, ad, cap, bd, dap⟩ ⟨u, ad', cap', bd', dap'⟩ wr) ∧ Hid (upTo k v.l u.l)) (fun v54 _ => nl - (intOf v54).toNat)
  case atStart => exact ⟨0, Nat.zero_le _, rfl, HT, Lib.hid (fun i hi => by omega)⟩
  case round =>
    obtain ⟨k, hk, rfl, HTr, HU⟩ := hrel
    clear HT
    by_cases hlt : k < nl
    · have hlt2 : k < ml := by have := E5.out; omega
      obtain ⟨x, hx⟩ : ∃ x, v.l[k]? = some x := ⟨_, List.getElem?_eq_getElem (by rw [HNL.out]; exact hlt)⟩
      obtain ⟨y, hy⟩ : ∃ y, u.l[k]? = some y := ⟨_, List.getElem?_eq_getElem (by rw [HML.out]; exact hlt2)⟩
      obtain ⟨b1, o1, hd1, -, hbl1, hcs1⟩ := HQ.out.l.elem (by show 0 < v.l.length; rw [HNL.out]; omega)
      obtain ⟨b2, o2, hd2, -, hbl2, hcs2⟩ := HP.out.l.elem (by show 0 < u.l.length; rw [HML.out]; omega)
      simp only at hd1 hd2
      subst hd1
      subst hd2
      obtain ⟨q1, hq1, hv1, hg1⟩ := hcs1 k x hx
      obtain ⟨q2, hq2, hv2, hg2⟩ := hcs2 k y hy
      clear hcs1 hcs2
      have hg := HTr.out.g
      obtain ⟨c0, c1, c2, c3, c4, c5⟩ := hg1.through (hg.block _ hbl1)
      obtain ⟨d0, d1, d2, d3, d4, d5⟩ := hg2.through (hg.block _ hbl2)
      have a4 := HTr.out.a.c4
      have b4 := HTr.out.b.c4
      simp only [HNL.out, HML.out] at a4 b4
      have r1 : (0 : Int) ≤ (k : Int) := by omega
      have r2 : (k : Int) < (nl : Int) := by omega
      have r3 : (k : Int) < (ml : Int) := by omega
      have r4 : (k : Int).toNat = k := rfl
      have hih := IH.out q1 q2 wr.drew (by rw [hq1]; exact V.lt_l (List.mem_of_getElem? hx)) ((hv1.keep hg).keep (Gx.drewN_below wr 1 _)) ((hv2.keep hg).keep (Gx.drewN_below wr 1 _))
      simp only [Loc.val] at hih
      have HIH := Lib.hid hih
      have HX : Hid (v.l[k]? = some q1.v) := Lib.hid (by rw [hx, hq1])
      have HY : Hid (u.l[k]? = some q2.v) := Lib.hid (by rw [hy, hq2])
      clear hx hy hq1 hq2 hv1 hv2 hg1 hg2 hg hih
      go_upto_region 6 with fail
      go_still_tail 10, (by kernel_rfl)
      change wpList _ _ _ _ _ wr.drew
      have HTd := Lib.hid (HTr.out.keep (Gx.drewN_below wr 1 _))
      generalize hwd : wr.drew = wd at HIH ⊢
      have HTd' : Hid (Two w ⟨v, some ⟨b1, o1, none⟩, cap, bd, dap⟩ ⟨u, some ⟨b2, o2, none⟩, cap', bd', dap'⟩ wd) := Lib.hid (by rw [← hwd]; exact HTd.out)
      clear hwd HTd HTr c0 c1 c2 c3 c4 c5 d0 d1 d2 d3 d4 d5 a4 b4
      go_wp2_with fail
      (with_reducible refine HIH.out.mono ?_)
      rintro e w3 ⟨b, rfl, hb, hbel⟩
      have HT3 := Lib.hid (HTd'.out.keep hbel)
      clear hbel HTd'
      cases b with
      | false =>
        have hne : v ≠ u := fun e => by
          have h1 := HX.out
          rw [e, HY.out] at h1
          have := hb.2 (Option.some.inj h1).symm
          cases this
        have HN := Lib.hid (NO.out _ hne HT3.out.g)
        clear hb hne
        go_wp2_with fail
        try go_ret
        exact HN.out
      | true =>
        have HU2 := Lib.hid (upTo_succ HU.out (by rw [HX.out, HY.out, hb.1 rfl]))
        clear hb
        go_wp2_with fail
        go_roundw
        case rel => exact ⟨k + 1, by omega, by go_num, HT3, HU2⟩
        case measure => simp [intOf]; omega
    · obtain rfl : k = nl := by omega
      have HLL : Hid (v.l = u.l) := Lib.hid (by have h := HU.out; rw [← HNL.out] at h; exact upTo_all h (by rw [HNL.out, HML.out]; exact E5.out))
      have a5 := HTr.out.a.c5
      simp only [HNE.out] at a5
      obtain ⟨wo, hwo⟩ : ∃ wo : World, wo = wr := ⟨_, rfl⟩
      rw [← hwo] at HTr a5 ⊢
      clear hwo wr HU hlt hk
      go_wp2_with fail
      clear a5
      go_loopw [73] (fun v73 wr => ∃ j : Nat, j ≤ ne ∧ v73 = .int .i64 j ∧ Hid (Two w ⟨v, ad, cap, bd, dap⟩ ⟨u, ad', cap', bd', dap'⟩ wr) ∧ Hid (upTo j v.e u.e)) (fun v73 _ => ne - (intOf v73).toNat)
      case atStart => exact ⟨0, Nat.zero_le _, rfl, HTr, Lib.hid (fun i hi => by omega)⟩
      case round =>
        obtain ⟨j, hj, rfl, HTq, HU⟩ := hrel
        clear HTr
        by_cases hlt : j < ne
        · have hlt2 : j < me := by have := E6.out; omega
          obtain ⟨x, hx⟩ : ∃ x, v.e[j]? = some x := ⟨_, List.getElem?_eq_getElem (by rw [HNE.out]; exact hlt)⟩
          obtain ⟨y, hy⟩ : ∃ y, u.e[j]? = some y := ⟨_, List.getElem?_eq_getElem (by rw [HME.out]; exact hlt2)⟩
          obtain ⟨b1, o1, hd1, -, hbl1, hcs1⟩ := HQ.out.e.entry (by show 0 < v.e.length; rw [HNE.out]; omega)
          obtain ⟨b2, o2, hd2, -, hbl2, hcs2⟩ := HP.out.e.entry (by show 0 < u.e.length; rw [HME.out]; omega)
          simp only at hd1 hd2
          subst hd1
          subst hd2
          obtain ⟨-, gk1, q1, hq1, hv1, hg1⟩ := hcs1 j x hx
          obtain ⟨-, gk2, q2, hq2, hv2, hg2⟩ := hcs2 j y hy
          clear hcs1 hcs2
          have hg := HTq.out.g
          have k1 : wr.cell? ⟨b1, o1 + j * 7, none⟩ = some (.string x.1) := (hg.cell (p := ⟨b1, _, none⟩) hbl1).trans gk1
          have k2 : wr.cell? ⟨b2, o2 + j * 7, none⟩ = some (.string y.1) := (hg.cell (p := ⟨b2, _, none⟩) hbl2).trans gk2
          obtain ⟨c0, c1, c2, c3, c4, c5⟩ := (hg1.through (hg.block _ hbl1)).seven
          obtain ⟨d0, d1, d2, d3, d4, d5⟩ := (hg2.through (hg.block _ hbl2)).seven
          have a5 := HTq.out.a.c5
          have b5 := HTq.out.b.c5
          simp only [HNE.out, HME.out] at a5 b5
          have r1 : (0 : Int) ≤ (j : Int) := by omega
          have r2 : (j : Int) < (ne : Int) := by omega
          have r3 : (j : Int) < (me : Int) := by omega
          have r4 : (j : Int).toNat = j := rfl
          have HX : Hid (v.e[j]? = some (x.1, q1.v)) := Lib.hid (by rw [hx, hq1])
          have HY : Hid (u.e[j]? = some (y.1, q2.v)) := Lib.hid (by rw [hy, hq2])
          by_cases hkk : x.1 = y.1
          · have hih := IH.out q1 q2 wr.drew (by rw [hq1]; exact V.lt_e (List.mem_of_getElem? hx)) ((hv1.keep hg).keep (Gx.drewN_below wr 1 _)) ((hv2.keep hg).keep (Gx.drewN_below wr 1 _))
            simp only [Loc.val] at hih
            have HIH := Lib.hid hih
            have t7 : (x.1.toList == y.1.toList) = true := by rw [hkk]; simp
            have HKK := Lib.hid hkk
            clear hx hy hq1 hq2 hv1 hv2 hg1 hg2 hg hih gk1 gk2 hkk
            go_upto_region 12 with fail
            go_still_tail 26, (by kernel_rfl)
            change wpList _ _ _ _ _ wr.drew
            have HTd := Lib.hid (HTq.out.keep (Gx.drewN_below wr 1 _))
            generalize hwd : wr.drew = wd at HIH ⊢
            have HTd' : Hid (Two w ⟨v, ad, cap, some ⟨b1, o1, none⟩, dap⟩ ⟨u, ad', cap', some ⟨b2, o2, none⟩, dap'⟩ wd) := Lib.hid (by rw [← hwd]; exact HTd.out)
            clear hwd HTd HTq c0 c1 c2 c3 c4 c5 d0 d1 d2 d3 d4 d5 a5 b5 k1 k2
            go_wp2_with fail
            (with_reducible refine HIH.out.mono ?_)
            rintro e w3 ⟨b, rfl, hb, hbel⟩
            have HT3 := Lib.hid (HTd'.out.keep hbel)
            clear hbel HTd'
            cases b with
            | false =>
              have hne : v ≠ u := fun e => by
                have h1 := HX.out
                rw [e, HY.out] at h1
                have := hb.2 (Prod.mk.inj (Option.some.inj h1)).2.symm
                cases this
              have HN := Lib.hid (NO.out _ hne HT3.out.g)
              clear hb hne
              go_wp2_with fail
              try go_ret
              exact HN.out
            | true =>
              have HU2 := Lib.hid (upTo_succ HU.out (by rw [HX.out, HY.out, hb.1 rfl, HKK.out]))
              clear hb
              go_wp2_with fail
              go_roundw
              case rel => exact ⟨j + 1, by omega, by go_num, HT3, HU2⟩
              case measure => simp [intOf]; omega
          · have t7 : (x.1.toList == y.1.toList) = false := by
              simp only [ByteArray.toList_eq, beq_eq_false_iff_ne, ne_eq]
              intro h; exact hkk (by cases hv : x.1; cases hu : y.1; rw [hv, hu] at h; congr 1; exact Array.toList_inj.1 h)
            have hne : v ≠ u := fun e => by
              have h1 := HX.out
              rw [e, HY.out] at h1
              exact hkk (Prod.mk.inj (Option.some.inj h1)).1.symm
            have HN := Lib.hid (fun n : Nat => NO.out (wr.drewN n) hne (HTq.out.g.trans (Gx.drewN_below wr n _)))
            clear hx hy hq1 hq2 hv1 hv2 hg1 hg2 hg gk1 gk2 hkk hne
            go_upto_region 12 with fail
            go_quiet (fail)
            go_wp2_with fail
            try go_ret
            exact HN.out nq
        · obtain rfl : j = ne := by omega
          have HEE : Hid (v.e = u.e) := Lib.hid (by have h := HU.out; rw [← HNE.out] at h; exact upTo_all h (by rw [HNE.out, HME.out]; exact E6.out))
          go_wp2_with fail
          try go_ret
          exact ⟨true, rfl, ⟨fun _ => HYES.out HLL.out HEE.out, fun _ => rfl⟩, HTq.out.g⟩
/-- alike, whatever two -/
theorem alike_any (q p : Loc) (w : World) (hq : VAt w (fun _ => True) q) (hp : VAt w (fun _ => True) p) : Calls Tryz.prog 16 #[q.val, p.val] w (AlikePost q.v p.v w) := by
  have key : ∀ (n : Nat) (q p : Loc) (w : World), SizeOf.sizeOf q.v ≤ n → VAt w (fun _ => True) q → VAt w (fun _ => True) p → Calls Tryz.prog 16 #[q.val, p.val] w (AlikePost q.v p.v w) := by
    intro n
    induction n with
    | zero => intro q p w h; cases q with | mk v _ _ _ _ => cases v; simp at h
    | succ n ih => exact fun q p w h hq hp => alike_step q.v p.v q.ad q.bd p.ad p.bd q.cap q.dap p.cap p.dap w hq hp (fun q' p' w' h' hq' hp' => ih q' p' w' (by omega) hq' hp')
  exact key _ q p w (Nat.le_refl _) hq hp
end Go.Proofs.YtldhmfkojaekfaaGreatDoor
namespace Go.Proofs.YtldhmfkojaekfaaGreatDoor
open Go.RowKit Gx
set_option maxRecDepth 100000

/-- the bytes of a fraction's bits -/
def fbits (f : Int) : Int := if f < 9223372036854775808 then f + 9223372036854775808 else 18446744073709551615 - f
def sgn (x y : Int) : Int := if x < y then -1 else if y < x then 1 else 0
/-- texts, byte by byte -/
def sgnB (a b : ByteArray) : Int := if Op.bytesLess a.toList b.toList then -1 else if (Op.bytesLess a.toList b.toList || a.toList == b.toList) then 0 else 1
def CmpPost (c : Int) (w : World) (e : Ending) (w' : World) : Prop := e = .returned (.int .i64 c) ∧ w = w'
set_option maxHeartbeats 400000 in
theorem cmpInt_any (x y : Int) (w : World) : Calls Tryz.prog 36 #[.int .i64 x, .int .i64 y] w (CmpPost (sgn x y) w) := by
  by_cases h1 : x < y
  · have e : sgn x y = -1 := by unfold sgn; rw [if_pos h1]
    go_enter Tryz.func36, Tryz.ntmps36
    go_wp2
    go_ret
    exact ⟨by first | rfl | (rw [e]; rfl), rfl⟩
  by_cases h2 : y < x
  · have e : sgn x y = 1 := by unfold sgn; rw [if_neg h1, if_pos h2]
    go_enter Tryz.func36, Tryz.ntmps36
    go_wp2
    go_ret
    exact ⟨by first | rfl | (rw [e]; rfl), rfl⟩
  · have e : sgn x y = 0 := by unfold sgn; rw [if_neg h1, if_neg h2]
    go_enter Tryz.func36, Tryz.ntmps36
    go_wp2
    go_ret
    exact ⟨by first | rfl | (rw [e]; rfl), rfl⟩
set_option maxHeartbeats 400000 in
theorem cmpI64_any (x y : Int) (w : World) : Calls Tryz.prog 37 #[.int .i64 x, .int .i64 y] w (CmpPost (sgn x y) w) := by
  by_cases h1 : x < y
  · have e : sgn x y = -1 := by unfold sgn; rw [if_pos h1]
    go_enter Tryz.func37, Tryz.ntmps37
    go_wp2
    go_ret
    exact ⟨by first | rfl | (rw [e]; rfl), rfl⟩
  by_cases h2 : y < x
  · have e : sgn x y = 1 := by unfold sgn; rw [if_neg h1, if_pos h2]
    go_enter Tryz.func37, Tryz.ntmps37
    go_wp2
    go_ret
    exact ⟨by first | rfl | (rw [e]; rfl), rfl⟩
  · have e : sgn x y = 0 := by unfold sgn; rw [if_neg h1, if_neg h2]
    go_enter Tryz.func37, Tryz.ntmps37
    go_wp2
    go_ret
    exact ⟨by first | rfl | (rw [e]; rfl), rfl⟩
set_option maxHeartbeats 400000 in
theorem cmpU64_any (x y : Int) (w : World) : Calls Tryz.prog 38 #[.int .u64 x, .int .u64 y] w (CmpPost (sgn x y) w) := by
  by_cases h1 : x < y
  · have e : sgn x y = -1 := by unfold sgn; rw [if_pos h1]
    go_enter Tryz.func38, Tryz.ntmps38
    go_wp2
    go_ret
    exact ⟨by first | rfl | (rw [e]; rfl), rfl⟩
  by_cases h2 : y < x
  · have e : sgn x y = 1 := by unfold sgn; rw [if_neg h1, if_pos h2]
    go_enter Tryz.func38, Tryz.ntmps38
    go_wp2
    go_ret
    exact ⟨by first | rfl | (rw [e]; rfl), rfl⟩
  · have e : sgn x y = 0 := by unfold sgn; rw [if_neg h1, if_neg h2]
    go_enter Tryz.func38, Tryz.ntmps38
    go_wp2
    go_ret
    exact ⟨by first | rfl | (rw [e]; rfl), rfl⟩
set_option maxHeartbeats 1000000 in
theorem cmpStr_any (a b : ByteArray) (w : World) : Calls Tryz.prog 40 #[.string a, .string b] w (CmpPost (sgnB a b) w) := by
  obtain ⟨x, hx⟩ : ∃ x, Op.bytesLess a.toList b.toList = x := ⟨_, rfl⟩
  obtain ⟨y, hy⟩ : ∃ y, (a.toList == b.toList) = y := ⟨_, rfl⟩
  have e : sgnB a b = if x = true then -1 else if (x || y) = true then 0 else 1 := by unfold sgnB; rw [hx, hy]
  have E := Lib.hid e
  clear e
  cases x with
  | true =>
    go_enter Tryz.func40, Tryz.ntmps40
    go_wp2
    go_ret
    exact ⟨by rw [E.out]; rfl, rfl⟩
  | false =>
    cases y with
    | true =>
      go_enter Tryz.func40, Tryz.ntmps40
      go_wp2
      go_ret
      exact ⟨by rw [E.out]; rfl, rfl⟩
    | false =>
      go_enter Tryz.func40, Tryz.ntmps40
      go_wp2
      go_ret
      exact ⟨by rw [E.out]; rfl, rfl⟩
def RankPost (n : Int) (w : World) (e : Ending) (w' : World) : Prop := e = .returned (.int .u64 n) ∧ w = w'
theorem ior_top (f : Int) (h0 : 0 ≤ f) (h1 : f < 9223372036854775808) : bits .or .u64 f 9223372036854775808 = f + 9223372036854775808 := by
  obtain ⟨b, rfl⟩ : ∃ b : Nat, f = (b : Int) := ⟨f.toNat, by omega⟩
  have := u64_or_nat b 9223372036854775808 (by omega) (by omega)
  rw [show ((9223372036854775808 : Nat) : Int) = 9223372036854775808 from rfl] at this
  rw [this]
  have h2 : b ||| 9223372036854775808 = 9223372036854775808 + b := by
    have := Nat.two_pow_add_eq_or_of_lt (i := 63) (b := b) (by omega) 1
    rw [Nat.mul_one, show 2 ^ 63 = 9223372036854775808 from rfl] at this
    rw [Nat.or_comm]; exact this.symm
  rw [h2]; omega
set_option maxHeartbeats 1000000 in
theorem rank_any (f : Int) (w : World) (h0 : 0 ≤ f) (h1 : f ≤ 18446744073709551615) : Calls Tryz.prog 39 #[.int .u64 f] w (RankPost (fbits f) w) := by
  obtain ⟨N, hN⟩ : ∃ N, fbits f = N := ⟨_, rfl⟩
  rw [hN]
  by_cases hf : f < 9223372036854775808
  · have hb : bits .or .u64 f 9223372036854775808 = N := by rw [ior_top f h0 hf, ← hN]; unfold fbits; rw [if_pos hf]
    have t1 : (f / 9223372036854775808 == 1) = false := by simp; omega
    clear hN
    go_enter Tryz.func39, Tryz.ntmps39
    go_wp2
    go_ret
    exact ⟨rfl, rfl⟩
  · have hb : bits .xor .u64 IntKind.u64.max f = N := by rw [ixor_all f h0 h1, ← hN]; unfold fbits; rw [if_neg hf]
    have t1 : (f / 9223372036854775808 == 1) = true := by simp; omega
    clear hN
    go_enter Tryz.func39, Tryz.ntmps39
    go_wp2
    go_ret
    exact ⟨rfl, rfl⟩
/-- the first that is not nought -/
def orL : List Int → Int
  | [] => 0
  | x :: xs => if x ≠ 0 then x else orL xs
theorem orL_drop {zs : List Int} {k : Nat} {x : Int} (h : zs[k]? = some x) : orL (zs.drop k) = if x ≠ 0 then x else orL (zs.drop (k + 1)) := by
  obtain ⟨hl, hx⟩ := List.getElem?_eq_some_iff.1 h
  rw [List.drop_eq_getElem_cons hl, hx, orL]
set_option maxHeartbeats 2000000 in
theorem or_any (b : Nat) (c : Nat) (zs : List Int) (w : World) (hc : ∀ k x, zs[k]? = some x → w.cell? ⟨b, k, none⟩ = some (.int .i64 x)) (hl : zs.length ≤ 100) : Calls Tryz.prog 35 #[.slice (some ⟨b, 0, none⟩) zs.length c] w (CmpPost (orL zs) w) := by
  obtain ⟨n, hn⟩ : ∃ n, zs.length = n := ⟨_, rfl⟩
  rw [hn] at hl ⊢
  have HN := Lib.hid hn
  have HC := Lib.hid hc
  clear hn hc
  go_enter Tryz.func35, Tryz.ntmps35
  go_wp2
  go_loop [8] (fun i => ∃ k : Nat, k ≤ n ∧ i = .int .i64 k ∧ Hid (orL (zs.drop k) = orL zs)) (fun i => n - (intOf i).toNat)
  case atStart => exact ⟨0, Nat.zero_le _, rfl, rfl⟩
  case round =>
    obtain ⟨k, hk, rfl, hr⟩ := hrel
    by_cases hlt : k < n
    · obtain ⟨x, hx⟩ : ∃ x, zs[k]? = some x := ⟨_, List.getElem?_eq_getElem (by rw [HN.out]; exact hlt)⟩
      have hcx := HC.out k x hx
      have hd := orL_drop hx
      rw [hr.out] at hd
      have HD := Lib.hid hd
      clear hx hd
      by_cases h0 : x = 0
      · subst h0
        have HD2 : Hid (orL (zs.drop (k + 1)) = orL zs) := Lib.hid (by rw [HD.out]; rfl)
        go_wp2
        go_round
        case rel => exact ⟨k + 1, by omega, by go_num, HD2⟩
        case measure => simp [intOf]; omega
      · have t1 : (x != 0) = true := by simpa using h0
        have HD2 : Hid (orL zs = x) := Lib.hid (by rw [HD.out, if_pos h0])
        clear h0
        go_wp2
        go_ret
        exact ⟨by rw [HD2.out]; rfl, rfl⟩
    · obtain rfl : k = n := by omega
      have h0 : orL zs = 0 := by rw [← hr.out, List.drop_of_length_le (Nat.le_of_eq HN.out)]; rfl
      have H0 := Lib.hid h0
      clear h0
      go_wp2
      go_ret
      exact ⟨by rw [H0.out]; rfl, rfl⟩
end Go.Proofs.YtldhmfkojaekfaaGreatDoor
namespace Go.Proofs.YtldhmfkojaekfaaGreatDoor
open Go.RowKit Gx
set_option maxRecDepth 100000

def cmpL {α : Type} (f : α → α → Int) : List α → List α → Int
  | [], [] => 0
  | [], _ :: _ => -1
  | _ :: _, [] => 1
  | x :: xs, y :: ys => if f x y ≠ 0 then f x y else cmpL f xs ys
theorem cmpL_step {α : Type} {f : α → α → Int} {a b : List α} {k : Nat} {x y : α} (hx : a[k]? = some x) (hy : b[k]? = some y) : cmpL f (a.drop k) (b.drop k) = if f x y ≠ 0 then f x y else cmpL f (a.drop (k + 1)) (b.drop (k + 1)) := by
  obtain ⟨h1, e1⟩ := List.getElem?_eq_some_iff.1 hx
  obtain ⟨h2, e2⟩ := List.getElem?_eq_some_iff.1 hy
  rw [List.drop_eq_getElem_cons h1, List.drop_eq_getElem_cons h2, e1, e2, cmpL]
theorem cmpL_long {α : Type} {f : α → α → Int} {a b : List α} {k : Nat} (ha : k < a.length) (hb : b.length ≤ k) : cmpL f (a.drop k) (b.drop k) = 1 := by
  rw [List.drop_eq_getElem_cons ha, List.drop_of_length_le hb, cmpL]
theorem cmpL_end {α : Type} {f : α → α → Int} {a b : List α} {k : Nat} (ha : a.length ≤ k) : cmpL f (a.drop k) (b.drop k) = if k < b.length then -1 else 0 := by
  rw [List.drop_of_length_le ha]
  by_cases h : k < b.length
  · rw [if_pos h, List.drop_eq_getElem_cons h, cmpL]
  · rw [if_neg h, List.drop_of_length_le (by omega), cmpL]
def IntPost (c : Int) (w : World) (e : Ending) (w' : World) : Prop := e = .returned (.int .i64 c) ∧ Below w.heap.size w w'

set_option maxHeartbeats 8000000 in
theorem cmpVals_any (f : V → V → Int) (l l' : List V) (ad ad' : Option Addr) (cap cap' : Nat) (w : World) (h : RowAt w (fun _ => True) false (lp l) (.slice ad l.length cap)) (h' : RowAt w (fun _ => True) false (lp l') (.slice ad' l'.length cap'))
    (ih : ∀ (q p : Loc) (w : World), q.v ∈ l → VAt w (fun _ => True) q → VAt w (fun _ => True) p → Calls Tryz.prog 23 #[q.val, p.val] w (IntPost (f q.v p.v) w)) :
    Calls Tryz.prog 41 #[.slice ad l.length cap, .slice ad' l'.length cap', .func (.func 23) #[] #[]] w (IntPost (cmpL f l l') w) := by
  have hb := h.lbound
  have hb' := h'.lbound
  obtain ⟨n, hn⟩ : ∃ n, l.length = n := ⟨_, rfl⟩
  obtain ⟨n', hn'⟩ : ∃ n', l'.length = n' := ⟨_, rfl⟩
  rw [hn] at hb h ⊢
  rw [hn'] at hb' h' ⊢
  have HN := Lib.hid hn
  have HN' := Lib.hid hn'
  have H := Lib.hid h
  have H' := Lib.hid h'
  have IH := Lib.hid ih
  clear hn hn' h h' ih
  go_enter Tryz.func41, Tryz.ntmps41
  go_wp2_with fail
  go_loopw [13] (fun v13 wr => ∃ k : Nat, k ≤ n ∧ v13 = .int .i64 k ∧ Hid (Below w.heap.size w wr) ∧ Hid (cmpL f (l.drop k) (l'.drop k) = cmpL f l l')) (fun v13 _ => n - (intOf v13).toNat)
  case atStart => exact ⟨0, Nat.zero_le _, rfl, Lib.hid (Below.refl _ _), rfl⟩
  case round =>
    obtain ⟨k, hk, rfl, HB, HK⟩ := hrel
    by_cases hlt : k < n
    · obtain ⟨x, hx⟩ : ∃ x, l[k]? = some x := ⟨_, List.getElem?_eq_getElem (by rw [HN.out]; exact hlt)⟩
      obtain ⟨b, off, hd, -, hbl, hcs⟩ := H.out.elem (by rw [HN.out]; omega)
      subst hd
      obtain ⟨q, rfl, hvq, gs⟩ := hcs k x hx
      obtain ⟨g0, g1, g2, g3, g4, g5⟩ := gs.through (HB.out.block _ hbl)
      have hc6 : CellsAt (wr.alloc (.cells #[.int .i64 q.v.k, .int .i64 q.v.n, .int .u64 q.v.f, .string q.v.s, .slice q.ad q.v.l.length q.cap, .slice q.bd q.v.e.length q.dap] 26)) wr.heap.size 0 q := CellsAt.box (heap_alloc_new wr _)
      have hb6 : Below w.heap.size w (wr.alloc (.cells #[.int .i64 q.v.k, .int .i64 q.v.n, .int .u64 q.v.f, .string q.v.s, .slice q.ad q.v.l.length q.cap, .slice q.bd q.v.e.length q.dap] 26)) := HB.out.alloc HB.out.size _
      have hsz6 : wr.heap.size < (wr.alloc (.cells #[.int .i64 q.v.k, .int .i64 q.v.n, .int .u64 q.v.f, .string q.v.s, .slice q.ad q.v.l.length q.cap, .slice q.bd q.v.e.length q.dap] 26)).heap.size := by simp
      go_upto_region 4 with fail
      generalize hw6 : World.alloc wr _ = w6 at hc6 hb6 hsz6 ⊢
      clear hw6 g0 g1 g2 g3 g4 g5 gs hcs
      have HB6 := Lib.hid hb6
      have HC6 := Lib.hid hc6
      have HQ := Lib.hid hvq
      have HX := Lib.hid hx
      clear hb6 hc6 hvq hx
      by_cases hlt2 : k < n'
      · have t1 : decide ((n' : Int) ≤ (k : Int)) = false := decide_eq_false (by omega)
        have t1n : decide (n' ≤ k) = false := decide_eq_false (by omega)
        obtain ⟨y, hy⟩ : ∃ y, l'[k]? = some y := ⟨_, List.getElem?_eq_getElem (by rw [HN'.out]; exact hlt2)⟩
        obtain ⟨b', off', hd, -, hbl', hcs⟩ := H'.out.elem (by rw [HN'.out]; omega)
        subst hd
        obtain ⟨p, rfl, hvp, gs⟩ := hcs k y hy
        obtain ⟨g0, g1, g2, g3, g4, g5⟩ := gs.through (HB6.out.block _ hbl')
        have hc7 : CellsAt (w6.alloc (.cells #[.int .i64 p.v.k, .int .i64 p.v.n, .int .u64 p.v.f, .string p.v.s, .slice p.ad p.v.l.length p.cap, .slice p.bd p.v.e.length p.dap] 26)) w6.heap.size 0 p := CellsAt.box (heap_alloc_new w6 _)
        have hb7 : Below w.heap.size w (w6.alloc (.cells #[.int .i64 p.v.k, .int .i64 p.v.n, .int .u64 p.v.f, .string p.v.s, .slice p.ad p.v.l.length p.cap, .slice p.bd p.v.e.length p.dap] 26)) := HB6.out.alloc HB6.out.size _
        have hb67 : CellsAt (w6.alloc (.cells #[.int .i64 p.v.k, .int .i64 p.v.n, .int .u64 p.v.f, .string p.v.s, .slice p.ad p.v.l.length p.cap, .slice p.bd p.v.e.length p.dap] 26)) wr.heap.size 0 q := HC6.out.through (Below.heap_alloc w6 _ _ hsz6)
        go_upto_region 7 with fail
        generalize hw7 : World.alloc w6 _ = w7 at hc7 hb7 hb67 ⊢
        clear hw7 g0 g1 g2 g3 g4 g5 gs hcs t1 t1n
        obtain ⟨a0, a1, a2, a3, a4, a5⟩ := hb67
        obtain ⟨d0, d1, d2, d3, d4, d5⟩ := hc7
        have hih := IH.out q p w7 (List.mem_of_getElem? HX.out) (HQ.out.keep hb7) (hvp.keep hb7)
        simp only [Loc.val] at hih
        have HIH := Lib.hid hih
        have hst := cmpL_step (f := f) HX.out hy
        rw [HK.out] at hst
        have HST := Lib.hid hst
        have HB7 := Lib.hid hb7
        clear hih hst hb7 hvp hy
        obtain ⟨r, hr⟩ : ∃ r, f q.v p.v = r := ⟨_, rfl⟩
        rw [hr] at HIH HST
        clear hr
        go_wp2_with fail
        (with_reducible refine HIH.out.mono ?_)
        rintro e w8 ⟨rfl, hb8⟩
        have HB8 := Lib.hid (HB7.out.trans (hb8.mono HB7.out.size))
        clear hb8 a0 a1 a2 a3 a4 a5 d0 d1 d2 d3 d4 d5
        by_cases h0 : r = 0
        · subst h0
          have HK2 : Hid (cmpL f (l.drop (k + 1)) (l'.drop (k + 1)) = cmpL f l l') := Lib.hid (by rw [HST.out]; rfl)
          go_wp2_with fail
          go_roundw
          case rel => exact ⟨k + 1, by omega, by go_num, HB8, HK2⟩
          case measure => simp [intOf]; omega
        · have t2 : (r != 0) = true := by simpa using h0
          have HR : Hid (cmpL f l l' = r) := Lib.hid (by rw [HST.out, if_pos h0])
          clear h0
          go_wp2_with fail
          try go_ret
          exact ⟨by rw [HR.out]; rfl, HB8.out⟩
      · have t1 : decide ((n' : Int) ≤ (k : Int)) = true := decide_eq_true (by omega)
        have t1n : decide (n' ≤ k) = true := decide_eq_true (by omega)
        have HR : Hid (cmpL f l l' = 1) := Lib.hid (by rw [← HK.out]; exact cmpL_long (by rw [HN.out]; exact hlt) (by rw [HN'.out]; omega))
        go_wp2_with fail
        try go_ret
        exact ⟨by rw [HR.out]; rfl, HB6.out⟩
    · obtain rfl : k = n := by omega
      have hke := HK.out
      rw [cmpL_end (Nat.le_of_eq HN.out), HN'.out] at hke
      have HKE := Lib.hid hke
      clear hke
      by_cases hlt2 : k < n'
      · have t1 : decide ((k : Int) < (n' : Int)) = true := decide_eq_true (by omega)
        have t1n : decide (k < n') = true := decide_eq_true (by omega)
        have HR : Hid (cmpL f l l' = -1) := Lib.hid (by rw [← HKE.out, if_pos hlt2])
        go_wp2_with fail
        try go_ret
        exact ⟨by rw [HR.out]; rfl, HB.out⟩
      · have t1 : decide ((k : Int) < (n' : Int)) = false := decide_eq_false (by omega)
        have t1n : decide (k < n') = false := decide_eq_false (by omega)
        have HR : Hid (cmpL f l l' = 0) := Lib.hid (by rw [← HKE.out, if_neg hlt2])
        go_wp2_with fail
        try go_ret
        exact ⟨by rw [HR.out]; rfl, HB.out⟩
end Go.Proofs.YtldhmfkojaekfaaGreatDoor
namespace Go.Proofs.YtldhmfkojaekfaaGreatDoor
open Go.RowKit Gx
set_option maxRecDepth 100000

/-- an entry in a block of its own -/
structure SevAt (w : World) (b : Nat) (key : ByteArray) (q : Loc) : Prop where
  k : w.cell? ⟨b, 0, none⟩ = some (.string key)
  c0 : w.cell? ⟨b, 1, none⟩ = some (.int .i64 q.v.k)
  c1 : w.cell? ⟨b, 2, none⟩ = some (.int .i64 q.v.n)
  c2 : w.cell? ⟨b, 3, none⟩ = some (.int .u64 q.v.f)
  c3 : w.cell? ⟨b, 4, none⟩ = some (.string q.v.s)
  c4 : w.cell? ⟨b, 5, none⟩ = some (.slice q.ad q.v.l.length q.cap)
  c5 : w.cell? ⟨b, 6, none⟩ = some (.slice q.bd q.v.e.length q.dap)
theorem SevAt.box {w : World} {b : Nat} {key : ByteArray} {q : Loc} {ty : TypeId} (h : w.heap[b]? = some (.cells #[.string key, .int .i64 q.v.k, .int .i64 q.v.n, .int .u64 q.v.f, .string q.v.s, .slice q.ad q.v.l.length q.cap, .slice q.bd q.v.e.length q.dap] ty)) : SevAt w b key q := by
  constructor <;> simp [World.cell?, h]
theorem SevAt.through {w w' : World} {b : Nat} {key : ByteArray} {q : Loc} (h : SevAt w b key q) (hb : w'.heap[b]? = w.heap[b]?) : SevAt w' b key q := by
  have hq : ∀ o, w'.cell? ⟨b, o, none⟩ = w.cell? ⟨b, o, none⟩ := fun o => World.cell?_of_block hb
  exact ⟨(hq _).trans h.k, (hq _).trans h.c0, (hq _).trans h.c1, (hq _).trans h.c2, (hq _).trans h.c3, (hq _).trans h.c4, (hq _).trans h.c5⟩
set_option maxHeartbeats 8000000 in
theorem cmpEnts_any (f : ByteArray × V → ByteArray × V → Int) (l l' : List (ByteArray × V)) (ad ad' : Option Addr) (cap cap' : Nat) (w : World) (h : RowAt w (fun _ => True) true l (.slice ad l.length cap)) (h' : RowAt w (fun _ => True) true l' (.slice ad' l'.length cap'))
    (ih : ∀ (x y : ByteArray × V) (q p : Loc) (w : World), x ∈ l → q.v = x.2 → p.v = y.2 → VAt w (fun _ => True) q → VAt w (fun _ => True) p → Calls Tryz.prog 43 #[.agg #[.string x.1, .int .i64 q.v.k, .int .i64 q.v.n, .int .u64 q.v.f, .string q.v.s, .slice q.ad q.v.l.length q.cap, .slice q.bd q.v.e.length q.dap], .agg #[.string y.1, .int .i64 p.v.k, .int .i64 p.v.n, .int .u64 p.v.f, .string p.v.s, .slice p.ad p.v.l.length p.cap, .slice p.bd p.v.e.length p.dap]] w (IntPost (f x y) w)) :
    Calls Tryz.prog 42 #[.slice ad l.length cap, .slice ad' l'.length cap', .func (.func 43) #[] #[]] w (IntPost (cmpL f l l') w) := by
  have hb := h.ebound
  have hb' := h'.ebound
  obtain ⟨n, hn⟩ : ∃ n, l.length = n := ⟨_, rfl⟩
  obtain ⟨n', hn'⟩ : ∃ n', l'.length = n' := ⟨_, rfl⟩
  rw [hn] at hb h ⊢
  rw [hn'] at hb' h' ⊢
  have HN := Lib.hid hn
  have HN' := Lib.hid hn'
  have H := Lib.hid h
  have H' := Lib.hid h'
  have IH := Lib.hid ih
  clear hn hn' h h' ih
  go_enter Tryz.func42, Tryz.ntmps42
  go_wp2_with fail
  go_loopw [13] (fun v13 wr => ∃ k : Nat, k ≤ n ∧ v13 = .int .i64 k ∧ Hid (Below w.heap.size w wr) ∧ Hid (cmpL f (l.drop k) (l'.drop k) = cmpL f l l')) (fun v13 _ => n - (intOf v13).toNat)
  case atStart => exact ⟨0, Nat.zero_le _, rfl, Lib.hid (Below.refl _ _), rfl⟩
  case round =>
    obtain ⟨k, hk, rfl, HB, HK⟩ := hrel
    by_cases hlt : k < n
    · obtain ⟨x, hx⟩ : ∃ x, l[k]? = some x := ⟨_, List.getElem?_eq_getElem (by rw [HN.out]; exact hlt)⟩
      obtain ⟨b, off, hd, -, hbl, hcs⟩ := H.out.entry (by rw [HN.out]; omega)
      subst hd
      obtain ⟨-, gk, q, hqx, hvq, gs⟩ := hcs k x hx
      have HQX := Lib.hid hqx
      clear hqx
      have gk' : wr.cell? ⟨b, off + k * 7, none⟩ = _ := (World.cell?_of_block (HB.out.block _ hbl)).trans gk
      obtain ⟨g0, g1, g2, g3, g4, g5⟩ := (gs.through (HB.out.block _ hbl)).seven
      have hc6 : SevAt (wr.alloc (.cells #[.string x.1, .int .i64 q.v.k, .int .i64 q.v.n, .int .u64 q.v.f, .string q.v.s, .slice q.ad q.v.l.length q.cap, .slice q.bd q.v.e.length q.dap] 44)) wr.heap.size x.1 q := SevAt.box (heap_alloc_new wr _)
      have hb6 : Below w.heap.size w (wr.alloc (.cells #[.string x.1, .int .i64 q.v.k, .int .i64 q.v.n, .int .u64 q.v.f, .string q.v.s, .slice q.ad q.v.l.length q.cap, .slice q.bd q.v.e.length q.dap] 44)) := HB.out.alloc HB.out.size _
      have hsz6 : wr.heap.size < (wr.alloc (.cells #[.string x.1, .int .i64 q.v.k, .int .i64 q.v.n, .int .u64 q.v.f, .string q.v.s, .slice q.ad q.v.l.length q.cap, .slice q.bd q.v.e.length q.dap] 44)).heap.size := by simp
      go_upto_region 4 with fail
      generalize hw6 : World.alloc wr _ = w6 at hc6 hb6 hsz6 ⊢
      clear hw6 gk gk' g0 g1 g2 g3 g4 g5 gs hcs
      have HB6 := Lib.hid hb6
      have HC6 := Lib.hid hc6
      have HQ := Lib.hid hvq
      have HX := Lib.hid hx
      clear hb6 hc6 hvq hx
      by_cases hlt2 : k < n'
      · have t1 : decide ((n' : Int) ≤ (k : Int)) = false := decide_eq_false (by omega)
        have t1n : decide (n' ≤ k) = false := decide_eq_false (by omega)
        obtain ⟨y, hy⟩ : ∃ y, l'[k]? = some y := ⟨_, List.getElem?_eq_getElem (by rw [HN'.out]; exact hlt2)⟩
        obtain ⟨b', off', hd, -, hbl', hcs⟩ := H'.out.entry (by rw [HN'.out]; omega)
        subst hd
        obtain ⟨-, gk, p, hpy, hvp, gs⟩ := hcs k y hy
        have HPY := Lib.hid hpy
        clear hpy
        have gk' : w6.cell? ⟨b', off' + k * 7, none⟩ = _ := (World.cell?_of_block (HB6.out.block _ hbl')).trans gk
        obtain ⟨g0, g1, g2, g3, g4, g5⟩ := (gs.through (HB6.out.block _ hbl')).seven
        have hc7 : SevAt (w6.alloc (.cells #[.string y.1, .int .i64 p.v.k, .int .i64 p.v.n, .int .u64 p.v.f, .string p.v.s, .slice p.ad p.v.l.length p.cap, .slice p.bd p.v.e.length p.dap] 44)) w6.heap.size y.1 p := SevAt.box (heap_alloc_new w6 _)
        have hb7 : Below w.heap.size w (w6.alloc (.cells #[.string y.1, .int .i64 p.v.k, .int .i64 p.v.n, .int .u64 p.v.f, .string p.v.s, .slice p.ad p.v.l.length p.cap, .slice p.bd p.v.e.length p.dap] 44)) := HB6.out.alloc HB6.out.size _
        have hb67 : SevAt (w6.alloc (.cells #[.string y.1, .int .i64 p.v.k, .int .i64 p.v.n, .int .u64 p.v.f, .string p.v.s, .slice p.ad p.v.l.length p.cap, .slice p.bd p.v.e.length p.dap] 44)) wr.heap.size x.1 q := HC6.out.through (Below.heap_alloc w6 _ _ hsz6)
        go_upto_region 7 with fail
        generalize hw7 : World.alloc w6 _ = w7 at hc7 hb7 hb67 ⊢
        clear hw7 gk gk' g0 g1 g2 g3 g4 g5 gs hcs t1 t1n
        obtain ⟨ak, a0, a1, a2, a3, a4, a5⟩ := hb67
        obtain ⟨dk, d0, d1, d2, d3, d4, d5⟩ := hc7
        have hih := IH.out x y q p w7 (List.mem_of_getElem? HX.out) HQX.out HPY.out (HQ.out.keep hb7) (hvp.keep hb7)
        have HIH := Lib.hid hih
        have hst := cmpL_step (f := f) HX.out hy
        rw [HK.out] at hst
        have HST := Lib.hid hst
        have HB7 := Lib.hid hb7
        clear hih hst hb7 hvp hy
        obtain ⟨r, hr⟩ : ∃ r, f x y = r := ⟨_, rfl⟩
        rw [hr] at HIH HST
        clear hr
        go_wp2_with fail
        (with_reducible refine HIH.out.mono ?_)
        rintro e w8 ⟨rfl, hb8⟩
        have HB8 := Lib.hid (HB7.out.trans (hb8.mono HB7.out.size))
        clear hb8 ak dk a0 a1 a2 a3 a4 a5 d0 d1 d2 d3 d4 d5
        by_cases h0 : r = 0
        · subst h0
          have HK2 : Hid (cmpL f (l.drop (k + 1)) (l'.drop (k + 1)) = cmpL f l l') := Lib.hid (by rw [HST.out]; rfl)
          go_wp2_with fail
          go_roundw
          case rel => exact ⟨k + 1, by omega, by go_num, HB8, HK2⟩
          case measure => simp [intOf]; omega
        · have t2 : (r != 0) = true := by simpa using h0
          have HR : Hid (cmpL f l l' = r) := Lib.hid (by rw [HST.out, if_pos h0])
          clear h0
          go_wp2_with fail
          try go_ret
          exact ⟨by rw [HR.out]; rfl, HB8.out⟩
      · have t1 : decide ((n' : Int) ≤ (k : Int)) = true := decide_eq_true (by omega)
        have t1n : decide (n' ≤ k) = true := decide_eq_true (by omega)
        have HR : Hid (cmpL f l l' = 1) := Lib.hid (by rw [← HK.out]; exact cmpL_long (by rw [HN.out]; exact hlt) (by rw [HN'.out]; omega))
        go_wp2_with fail
        try go_ret
        exact ⟨by rw [HR.out]; rfl, HB6.out⟩
    · obtain rfl : k = n := by omega
      have hke := HK.out
      rw [cmpL_end (Nat.le_of_eq HN.out), HN'.out] at hke
      have HKE := Lib.hid hke
      clear hke
      by_cases hlt2 : k < n'
      · have t1 : decide ((k : Int) < (n' : Int)) = true := decide_eq_true (by omega)
        have t1n : decide (k < n') = true := decide_eq_true (by omega)
        have HR : Hid (cmpL f l l' = -1) := Lib.hid (by rw [← HKE.out, if_pos hlt2])
        go_wp2_with fail
        try go_ret
        exact ⟨by rw [HR.out]; rfl, HB.out⟩
      · have t1 : decide ((k : Int) < (n' : Int)) = false := decide_eq_false (by omega)
        have t1n : decide (k < n') = false := decide_eq_false (by omega)
        have HR : Hid (cmpL f l l' = 0) := Lib.hid (by rw [← HKE.out, if_neg hlt2])
        go_wp2_with fail
        try go_ret
        exact ⟨by rw [HR.out]; rfl, HB.out⟩
end Go.Proofs.YtldhmfkojaekfaaGreatDoor
namespace Go.Proofs.YtldhmfkojaekfaaGreatDoor
open Go.RowKit Gx
set_option maxRecDepth 100000

def cmpEn (f : V → V → Int) (x y : ByteArray × V) : Int := orL [sgnB x.1 y.1, f x.2 y.2]
def cmpD : Nat → V → V → Int
  | 0, _, _ => 0
  | n + 1, v, u => orL [sgn v.k u.k, sgn v.n u.n, sgn (fbits v.f) (fbits u.f), sgnB v.s u.s, cmpL (cmpD n) v.l u.l, cmpL (cmpEn (cmpD n)) v.e u.e]

/-- two boxes of entries -/
structure TwoE (w : World) (x y : ByteArray) (q p : Loc) (W : World) : Prop where
  a : SevAt W w.heap.size x q
  b : SevAt W (w.heap.size + 1) y p
  g : Below w.heap.size w W
  s : w.heap.size + 2 ≤ W.heap.size
theorem TwoE.start (x y : ByteArray) (q p : Loc) (w : World) : TwoE w x y q p ((w.alloc (.cells #[.string x, .int .i64 q.v.k, .int .i64 q.v.n, .int .u64 q.v.f, .string q.v.s, .slice q.ad q.v.l.length q.cap, .slice q.bd q.v.e.length q.dap] 44)).alloc
    (.cells #[.string y, .int .i64 p.v.k, .int .i64 p.v.n, .int .u64 p.v.f, .string p.v.s, .slice p.ad p.v.l.length p.cap, .slice p.bd p.v.e.length p.dap] 44)) := by
  refine ⟨?_, ?_, ((Below.refl _ w).alloc (Nat.le_refl _) _).alloc (by simp) _, by simp⟩
  · refine SevAt.box (ty := 44) ?_
    rw [Below.heap_alloc _ _ _ (by simp)]
    exact heap_alloc_new w _
  · refine SevAt.box (ty := 44) ?_
    have := heap_alloc_new (w.alloc (.cells #[.string x, .int .i64 q.v.k, .int .i64 q.v.n, .int .u64 q.v.f, .string q.v.s, .slice q.ad q.v.l.length q.cap, .slice q.bd q.v.e.length q.dap] 44)) (.cells #[.string y, .int .i64 p.v.k, .int .i64 p.v.n, .int .u64 p.v.f, .string p.v.s, .slice p.ad p.v.l.length p.cap, .slice p.bd p.v.e.length p.dap] 44)
    rwa [World.size_alloc] at this
theorem TwoE.keep {w : World} {x y : ByteArray} {q p : Loc} {W W' : World} (h : TwoE w x y q p W) (hb : Below W.heap.size W W') : TwoE w x y q p W' := by
  have hs := h.s
  exact ⟨h.a.through (hb.block _ (by omega)), h.b.through (hb.block _ (by omega)), h.g.trans (hb.mono h.g.size), by have := hb.size; omega⟩
theorem ints_at (W : World) (zs : List Int) (ty : TypeId) : ∀ k x, zs[k]? = some x → (W.alloc (.cells (zs.map (Value.int .i64)).toArray ty)).cell? ⟨W.heap.size, k, none⟩ = some (.int .i64 x) := fun k x h => by
  have := World.cell?_alloc_mark W (zs.map (Value.int .i64)).toArray ty (0, 0) k
  rw [this]; simpa using h

/-- what the entries' comparison lays, told one by one -/
def SevTwo (w : World) (a b : Nat) (x y : ByteArray) (q p : Loc) : Prop :=
  w.cell? ⟨a, 0, none⟩ = some (.string x) ∧ w.cell? ⟨a, 1, none⟩ = some (.int .i64 q.v.k) ∧ w.cell? ⟨a, 2, none⟩ = some (.int .i64 q.v.n) ∧ w.cell? ⟨a, 3, none⟩ = some (.int .u64 q.v.f) ∧ w.cell? ⟨a, 4, none⟩ = some (.string q.v.s) ∧ w.cell? ⟨a, 5, none⟩ = some (.slice q.ad q.v.l.length q.cap) ∧ w.cell? ⟨a, 6, none⟩ = some (.slice q.bd q.v.e.length q.dap) ∧ w.cell? ⟨b, 0, none⟩ = some (.string y) ∧ w.cell? ⟨b, 1, none⟩ = some (.int .i64 p.v.k) ∧ w.cell? ⟨b, 2, none⟩ = some (.int .i64 p.v.n) ∧ w.cell? ⟨b, 3, none⟩ = some (.int .u64 p.v.f) ∧ w.cell? ⟨b, 4, none⟩ = some (.string p.v.s) ∧ w.cell? ⟨b, 5, none⟩ = some (.slice p.ad p.v.l.length p.cap) ∧ w.cell? ⟨b, 6, none⟩ = some (.slice p.bd p.v.e.length p.dap)
theorem TwoE.cells {w : World} {x y : ByteArray} {q p : Loc} {W : World} (h : TwoE w x y q p W) : SevTwo W w.heap.size (w.heap.size + 1) x y q p :=
  ⟨h.a.k, h.a.c0, h.a.c1, h.a.c2, h.a.c3, h.a.c4, h.a.c5, h.b.k, h.b.c0, h.b.c1, h.b.c2, h.b.c3, h.b.c4, h.b.c5⟩

set_option maxHeartbeats 8000000 in
theorem cmpEnt_any (x y : ByteArray) (q p : Loc) (r : Int) (w : World) (hq : VAt w (fun _ => True) q) (hp : VAt w (fun _ => True) p)
    (ih : ∀ W, Below w.heap.size w W → Calls Tryz.prog 23 #[.agg #[.int .i64 q.v.k, .int .i64 q.v.n, .int .u64 q.v.f, .string q.v.s, .slice q.ad q.v.l.length q.cap, .slice q.bd q.v.e.length q.dap], .agg #[.int .i64 p.v.k, .int .i64 p.v.n, .int .u64 p.v.f, .string p.v.s, .slice p.ad p.v.l.length p.cap, .slice p.bd p.v.e.length p.dap]] W (IntPost r W)) :
    Calls Tryz.prog 43 #[.agg #[.string x, .int .i64 q.v.k, .int .i64 q.v.n, .int .u64 q.v.f, .string q.v.s, .slice q.ad q.v.l.length q.cap, .slice q.bd q.v.e.length q.dap], .agg #[.string y, .int .i64 p.v.k, .int .i64 p.v.n, .int .u64 p.v.f, .string p.v.s, .slice p.ad p.v.l.length p.cap, .slice p.bd p.v.e.length p.dap]] w (IntPost (orL [sgnB x y, r]) w) := by
  have HT := Lib.hid (TwoE.start x y q p w)
  have IH := Lib.hid ih
  clear hq hp ih
  go_enter Tryz.func43, Tryz.ntmps43
  go_upto_region 1 with fail
  generalize hw2 : World.alloc (World.alloc w _) _ = w2 at HT ⊢
  clear hw2
  have HTd := Lib.hid (HT.out.keep (Gx.drewN_below w2 1 _))
  have hk2 : SevTwo w2.drew w.heap.size (w.heap.size + 1) x y q p := HTd.out.cells
  unfold SevTwo at hk2
  obtain ⟨s1, hs1⟩ : ∃ s1, sgnB x y = s1 := ⟨_, rfl⟩
  have HS1 := Lib.hid hs1
  clear hs1
  have hst : ∀ W, Calls Tryz.prog 40 #[.string x, .string y] W (CmpPost s1 W) := fun W => by have := cmpStr_any x y W; rwa [HS1.out] at this
  have HST := Lib.hid hst
  clear hst
  go_region_held3 (fun w' => w'.cell? ⟨w.heap.size, 0, none⟩ = some (.string x) ∧ w'.cell? ⟨w.heap.size, 1, none⟩ = some (.int .i64 q.v.k) ∧ w'.cell? ⟨w.heap.size, 2, none⟩ = some (.int .i64 q.v.n) ∧ w'.cell? ⟨w.heap.size, 3, none⟩ = some (.int .u64 q.v.f) ∧ w'.cell? ⟨w.heap.size, 4, none⟩ = some (.string q.v.s) ∧ w'.cell? ⟨w.heap.size, 5, none⟩ = some (.slice q.ad q.v.l.length q.cap) ∧ w'.cell? ⟨w.heap.size, 6, none⟩ = some (.slice q.bd q.v.e.length q.dap) ∧ w'.cell? ⟨w.heap.size + 1, 0, none⟩ = some (.string y) ∧ w'.cell? ⟨w.heap.size + 1, 1, none⟩ = some (.int .i64 p.v.k) ∧ w'.cell? ⟨w.heap.size + 1, 2, none⟩ = some (.int .i64 p.v.n) ∧ w'.cell? ⟨w.heap.size + 1, 3, none⟩ = some (.int .u64 p.v.f) ∧ w'.cell? ⟨w.heap.size + 1, 4, none⟩ = some (.string p.v.s) ∧ w'.cell? ⟨w.heap.size + 1, 5, none⟩ = some (.slice p.ad p.v.l.length p.cap) ∧ w'.cell? ⟨w.heap.size + 1, 6, none⟩ = some (.slice p.bd p.v.e.length p.dap)) (first | exact hk2 | exact hk3 | exact hk4 | go_keep)
    (first
      | (go_simp; refine (HST.out _).mono ?_; rintro e w' ⟨rfl, rfl⟩)
      | (go_simp; refine (IH.out _ HTd.out.g).mono ?_; rintro e w3 ⟨rfl, hb3⟩; have hT3 := HTd.out.keep (W' := w3) (hb3); have hk3 := hT3.cells; unfold SevTwo at hk3; have HT3 := Lib.hid hT3; have hT4 := hT3.keep ((Below.refl _ w3).alloc (Nat.le_refl _) (.cells #[.int .i64 s1, .int .i64 r] 3)); have hk4 := hT4.cells; unfold SevTwo at hk4; have HT4 := Lib.hid hT4; clear hb3 hT3 hT4)
      | (go_simp; refine (or_any _ 2 [s1, r] _ (ints_at w3 [s1, r] 3) (by simp)).mono ?_; rintro e w' ⟨rfl, rfl⟩))
  go_wp2_with fail
  try go_ret
  exact ⟨by rw [HS1.out]; rfl, HT4.out.g⟩

def SixTwo (w : World) (a b : Nat) (q p : Loc) : Prop :=
  w.cell? ⟨a, 0, none⟩ = some (.int .i64 q.v.k) ∧ w.cell? ⟨a, 1, none⟩ = some (.int .i64 q.v.n) ∧ w.cell? ⟨a, 2, none⟩ = some (.int .u64 q.v.f) ∧ w.cell? ⟨a, 3, none⟩ = some (.string q.v.s) ∧ w.cell? ⟨a, 4, none⟩ = some (.slice q.ad q.v.l.length q.cap) ∧ w.cell? ⟨a, 5, none⟩ = some (.slice q.bd q.v.e.length q.dap) ∧ w.cell? ⟨b, 0, none⟩ = some (.int .i64 p.v.k) ∧ w.cell? ⟨b, 1, none⟩ = some (.int .i64 p.v.n) ∧ w.cell? ⟨b, 2, none⟩ = some (.int .u64 p.v.f) ∧ w.cell? ⟨b, 3, none⟩ = some (.string p.v.s) ∧ w.cell? ⟨b, 4, none⟩ = some (.slice p.ad p.v.l.length p.cap) ∧ w.cell? ⟨b, 5, none⟩ = some (.slice p.bd p.v.e.length p.dap)
theorem Two.cells {w : World} {q p : Loc} {W : World} (h : Two w q p W) : SixTwo W w.heap.size (w.heap.size + 1) q p :=
  ⟨h.a.c0, h.a.c1, h.a.c2, h.a.c3, h.a.c4, h.a.c5, h.b.c0, h.b.c1, h.b.c2, h.b.c3, h.b.c4, h.b.c5⟩

set_option maxHeartbeats 16000000 in
theorem compare_step (q p : Loc) (w : World) (r5 r6 : Int) (hq : q.v.wf) (hp : p.v.wf)
    (ih5 : ∀ W, Below w.heap.size w W → Calls Tryz.prog 41 #[.slice q.ad q.v.l.length q.cap, .slice p.ad p.v.l.length p.cap, .func (.func 23) #[] #[]] W (IntPost r5 W))
    (ih6 : ∀ W, Below w.heap.size w W → Calls Tryz.prog 42 #[.slice q.bd q.v.e.length q.dap, .slice p.bd p.v.e.length p.dap, .func (.func 43) #[] #[]] W (IntPost r6 W)) :
    Calls Tryz.prog 23 #[.agg #[.int .i64 q.v.k, .int .i64 q.v.n, .int .u64 q.v.f, .string q.v.s, .slice q.ad q.v.l.length q.cap, .slice q.bd q.v.e.length q.dap], .agg #[.int .i64 p.v.k, .int .i64 p.v.n, .int .u64 p.v.f, .string p.v.s, .slice p.ad p.v.l.length p.cap, .slice p.bd p.v.e.length p.dap]] w
      (IntPost (orL [sgn q.v.k p.v.k, sgn q.v.n p.v.n, sgn (fbits q.v.f) (fbits p.v.f), sgnB q.v.s p.v.s, r5, r6]) w) := by
  have HT := Lib.hid (Two.start q p w)
  have IH5 := Lib.hid ih5
  have IH6 := Lib.hid ih6
  obtain ⟨g1, hg1⟩ : ∃ g, fbits q.v.f = g := ⟨_, rfl⟩
  obtain ⟨g2, hg2⟩ : ∃ g, fbits p.v.f = g := ⟨_, rfl⟩
  obtain ⟨s1, hs1⟩ : ∃ s, sgn q.v.k p.v.k = s := ⟨_, rfl⟩
  obtain ⟨s2, hs2⟩ : ∃ s, sgn q.v.n p.v.n = s := ⟨_, rfl⟩
  rw [hg1, hg2, hs1, hs2]
  obtain ⟨s3, hs3⟩ : ∃ s, sgn g1 g2 = s := ⟨_, rfl⟩
  obtain ⟨s4, hs4⟩ : ∃ s, sgnB q.v.s p.v.s = s := ⟨_, rfl⟩
  rw [hs3, hs4]
  obtain ⟨rr, hrr⟩ : ∃ rr, orL [s1, s2, s3, s4, r5, r6] = rr := ⟨_, rfl⟩
  rw [hrr]
  have HRR := Lib.hid hrr
  clear hrr
  have C1 : Hid (∀ W, Calls Tryz.prog 36 #[.int .i64 q.v.k, .int .i64 p.v.k] W (CmpPost s1 W)) := Lib.hid (fun W => by have := cmpInt_any q.v.k p.v.k W; rwa [hs1] at this)
  have C2 : Hid (∀ W, Calls Tryz.prog 37 #[.int .i64 q.v.n, .int .i64 p.v.n] W (CmpPost s2 W)) := Lib.hid (fun W => by have := cmpI64_any q.v.n p.v.n W; rwa [hs2] at this)
  have C3 : Hid (∀ W, Calls Tryz.prog 38 #[.int .u64 g1, .int .u64 g2] W (CmpPost s3 W)) := Lib.hid (fun W => by have := cmpU64_any g1 g2 W; rwa [hs3] at this)
  have C4 : Hid (∀ W, Calls Tryz.prog 40 #[.string q.v.s, .string p.v.s] W (CmpPost s4 W)) := Lib.hid (fun W => by have := cmpStr_any q.v.s p.v.s W; rwa [hs4] at this)
  have R1 : Hid (∀ W, Calls Tryz.prog 39 #[.int .u64 q.v.f] W (RankPost g1 W)) := Lib.hid (fun W => by have := rank_any q.v.f W hq.f0 hq.f1; rwa [hg1] at this)
  have R2 : Hid (∀ W, Calls Tryz.prog 39 #[.int .u64 p.v.f] W (RankPost g2 W)) := Lib.hid (fun W => by have := rank_any p.v.f W hp.f0 hp.f1; rwa [hg2] at this)
  clear hg1 hg2 hs1 hs2 hs3 hs4 hq hp ih5 ih6
  go_enter Tryz.func23, Tryz.ntmps23
  go_upto_region 1 with fail
  generalize hw2 : World.alloc (World.alloc w _) _ = w2 at HT ⊢
  clear hw2
  have HTd := Lib.hid (HT.out.keep (Gx.drewN_below w2 1 _))
  have hk2 : SixTwo w2.drew w.heap.size (w.heap.size + 1) q p := HTd.out.cells
  unfold SixTwo at hk2
  go_region_held3 (fun w' => w'.cell? ⟨w.heap.size, 0, none⟩ = some (.int .i64 q.v.k) ∧ w'.cell? ⟨w.heap.size, 1, none⟩ = some (.int .i64 q.v.n) ∧ w'.cell? ⟨w.heap.size, 2, none⟩ = some (.int .u64 q.v.f) ∧ w'.cell? ⟨w.heap.size, 3, none⟩ = some (.string q.v.s) ∧ w'.cell? ⟨w.heap.size, 4, none⟩ = some (.slice q.ad q.v.l.length q.cap) ∧ w'.cell? ⟨w.heap.size, 5, none⟩ = some (.slice q.bd q.v.e.length q.dap) ∧ w'.cell? ⟨w.heap.size + 1, 0, none⟩ = some (.int .i64 p.v.k) ∧ w'.cell? ⟨w.heap.size + 1, 1, none⟩ = some (.int .i64 p.v.n) ∧ w'.cell? ⟨w.heap.size + 1, 2, none⟩ = some (.int .u64 p.v.f) ∧ w'.cell? ⟨w.heap.size + 1, 3, none⟩ = some (.string p.v.s) ∧ w'.cell? ⟨w.heap.size + 1, 4, none⟩ = some (.slice p.ad p.v.l.length p.cap) ∧ w'.cell? ⟨w.heap.size + 1, 5, none⟩ = some (.slice p.bd p.v.e.length p.dap)) (first | exact hk2 | exact hk3 | exact hk4 | exact hk5 | go_keep)
    (first
      | (go_simp; (with_reducible refine (C1.out _).mono ?_); rintro e w' ⟨rfl, rfl⟩)
      | (go_simp; (with_reducible refine (C2.out _).mono ?_); rintro e w' ⟨rfl, rfl⟩)
      | (go_simp; (with_reducible refine (R1.out _).mono ?_); rintro e w' ⟨rfl, rfl⟩)
      | (go_simp; (with_reducible refine (R2.out _).mono ?_); rintro e w' ⟨rfl, rfl⟩)
      | (go_simp; (with_reducible refine (C3.out _).mono ?_); rintro e w' ⟨rfl, rfl⟩)
      | (go_simp; (with_reducible refine (C4.out _).mono ?_); rintro e w' ⟨rfl, rfl⟩)
      | (go_simp; refine (IH5.out _ HTd.out.g).mono ?_; rintro e w3 ⟨rfl, hb3⟩; have hT3 := HTd.out.keep (W' := w3) (hb3); have hk3 := hT3.cells; unfold SixTwo at hk3; have HT3 := Lib.hid hT3; clear hb3 hT3)
      | (go_simp; refine (IH6.out _ HT3.out.g).mono ?_; rintro e w4 ⟨rfl, hb4⟩; have hT4 := HT3.out.keep (W' := w4) (hb4); have hk4 := hT4.cells; unfold SixTwo at hk4; have HT4 := Lib.hid hT4; have hT5 := hT4.keep ((Below.refl _ w4).alloc (Nat.le_refl _) (.cells #[.int .i64 s1, .int .i64 s2, .int .i64 s3, .int .i64 s4, .int .i64 r5, .int .i64 r6] 3)); have hk5 := hT5.cells; unfold SixTwo at hk5; have HT5 := Lib.hid hT5; clear hb4 hT4 hT5)
      | (go_simp; refine (or_any _ 6 [s1, s2, s3, s4, r5, r6] _ (ints_at w4 [s1, s2, s3, s4, r5, r6] 3) (by simp)).mono ?_; rintro e w' ⟨rfl, rfl⟩))
  go_wp2_with fail
  try go_ret
  exact ⟨by rw [← HRR.out]; rfl, HT5.out.g⟩
/-- Compare, whatever two -/
theorem Compare_any : ∀ (n : Nat) (q p : Loc) (w : World), SizeOf.sizeOf q.v ≤ n → VAt w (fun _ => True) q → VAt w (fun _ => True) p → Calls Tryz.prog 23 #[q.val, p.val] w (IntPost (cmpD n q.v p.v) w)
  | 0, q, p, w, h, _, _ => by cases q with | mk v _ _ _ _ => cases v; simp at h
  | n + 1, q, p, w, h, hq, hp => by
    have ih := Compare_any n
    refine compare_step q p w _ _ hq.wf hp.wf (fun W hW => ?_) (fun W hW => ?_)
    · exact cmpVals_any (cmpD n) q.v.l p.v.l q.ad p.ad q.cap p.cap W (hq.l.keep hW) (hp.l.keep hW) (fun q' p' w' hm h1 h2 => ih q' p' w' (by have := V.lt_l hm; omega) h1 h2)
    · refine cmpEnts_any (cmpEn (cmpD n)) q.v.e p.v.e q.bd p.bd q.dap p.dap W (hq.e.keep hW) (hp.e.keep hW) (fun x y q' p' w' hm e1 e2 h1 h2 => ?_)
      have hlt := V.lt_e hm
      have := cmpEnt_any x.1 y.1 q' p' (cmpD n q'.v p'.v) w' h1 h2 (fun W' hW' => ih q' p' W' (by rw [e1]; omega) (h1.keep hW') (h2.keep hW'))
      rw [e1, e2] at this ⊢
      exact this
end Go.Proofs.YtldhmfkojaekfaaGreatDoor
namespace Go.Proofs.YtldhmfkojaekfaaGreatDoor
open Go.RowKit Gx

theorem sgn_zero (x y : Int) : sgn x y = 0 ↔ x = y := by
  unfold sgn
  split
  · simp; omega
  split
  · simp; omega
  · simp; omega
theorem sgnB_zero (a b : ByteArray) : sgnB a b = 0 ↔ a = b := by
  unfold sgnB
  constructor
  · intro h
    by_cases h1 : Op.bytesLess a.toList b.toList = true
    · rw [if_pos h1] at h; cases h
    rw [if_neg h1] at h
    by_cases h2 : (Op.bytesLess a.toList b.toList || a.toList == b.toList) = true
    · have h3 : a.toList = b.toList := by simpa [h1] using h2
      rw [ByteArray.toList_eq, ByteArray.toList_eq] at h3
      exact ByteArray.ext (Array.toList_inj.1 h3)
    · rw [if_neg h2] at h; cases h
  · rintro rfl
    have h1 : ∀ l : List UInt8, Op.bytesLess l l = false := by
      intro l
      induction l with
      | nil => rfl
      | cons a l ih => simp [Op.bytesLess, ih]
    rw [h1]; simp
theorem fbits_inj {a b : Int} (h0 : 0 ≤ a) (h1 : a ≤ 18446744073709551615) (g0 : 0 ≤ b) (g1 : b ≤ 18446744073709551615) (h : fbits a = fbits b) : a = b := by
  unfold fbits at h
  split at h <;> split at h <;> omega
theorem cmpL_zero {α : Type} {f : α → α → Int} : ∀ (l m : List α), (∀ x ∈ l, ∀ y ∈ m, f x y = 0 ↔ x = y) → (cmpL f l m = 0 ↔ l = m)
  | [], [], _ => by simp [cmpL]
  | [], _ :: _, _ => by simp [cmpL]
  | _ :: _, [], _ => by simp [cmpL]
  | x :: l, y :: m, h => by
    have h1 := h x (by simp) y (by simp)
    have h2 := cmpL_zero l m (fun a ha b hb => h a (by simp [ha]) b (by simp [hb]))
    rw [cmpL]
    by_cases hf : f x y = 0
    · rw [if_neg (by simpa using hf), h2, h1.1 hf]; simp
    · rw [if_pos hf]
      exact ⟨fun e => absurd e hf, fun e => absurd (h1.2 (List.cons.inj e).1) hf⟩
theorem orL_zero : ∀ l : List Int, orL l = 0 ↔ ∀ x ∈ l, x = 0
  | [] => by simp [orL]
  | x :: l => by
    rw [orL]
    by_cases h : x = 0
    · rw [if_neg (by simpa using h), orL_zero l]; simp [h]
    · rw [if_pos h]; simp [h]
theorem cmp_zero : ∀ (n : Nat) (v u : V), SizeOf.sizeOf v ≤ n → WfAll v → WfAll u → (cmpD n v u = 0 ↔ v = u)
  | 0, v, u, h, _, _ => by cases v; simp at h
  | n + 1, v, u, h, hv, hu => by
    have wv := hv.own
    have wu := hu.own
    rw [cmpD, orL_zero]
    have hl := cmpL_zero (f := cmpD n) v.l u.l (fun x hx y hy => cmp_zero n x y (by have := V.lt_l hx; omega) (hv.l x hx) (hu.l y hy))
    have he := cmpL_zero (f := cmpEn (cmpD n)) v.e u.e (fun x hx y hy => by
      have h1 := cmp_zero n x.2 y.2 (by have := V.lt_e hx; omega) (hv.e x hx) (hu.e y hy)
      unfold cmpEn
      rw [orL_zero]
      simp only [List.mem_cons, List.not_mem_nil, or_false, forall_eq_or_imp, forall_eq]
      rw [sgnB_zero, h1]
      constructor
      · rintro ⟨a, b⟩; exact Prod.ext a b
      · rintro rfl; exact ⟨rfl, rfl⟩)
    simp only [List.mem_cons, List.not_mem_nil, or_false, forall_eq_or_imp, forall_eq]
    rw [sgn_zero, sgn_zero, sgn_zero, sgnB_zero, hl, he]
    constructor
    · rintro ⟨a, b, c, d, e, f⟩
      exact V.ext' a b (fbits_inj wv.f0 wv.f1 wu.f0 wu.f1 c) d e f
    · rintro rfl; exact ⟨rfl, rfl, rfl, rfl, rfl, rfl⟩
end Go.Proofs.YtldhmfkojaekfaaGreatDoor
