/-
  The contract of alike: two values are one. No conditions.
-/
import Derived.Test.YtpjigecmnefnhaaDoorVal
import Derived.Test.YtpjigecmnefnhaaDoorProg
import Derived.Deep.DeepCutAuto
import Derived.Deep.CutBlock
import Derived.Deep.DeepFit
import Derived.Outline
import Derived.WalkLawsBesides
import Derived.StillTailTactics
namespace Go.Proofs.YtpjigecmnefnhaaDoor
open Go.RowKit Gx
set_option maxRecDepth 100000

def AlikePost (v u : V) (w : World) (e : Ending) (w' : World) : Prop := ∃ b : Bool, e = .returned (.bool b) ∧ (b = true ↔ v = u) ∧ Below w.heap.size w w'
/-- two lists agree up to k -/
def upTo {α : Type} (k : Nat) (a b : List α) : Prop := ∀ i, i < k → a[i]? = b[i]?
theorem upTo_succ {α : Type} {k : Nat} {a b : List α} (h : upTo k a b) (hk : a[k]? = b[k]?) : upTo (k + 1) a b := fun i hi => by
  by_cases e : i = k
  · rw [e]; exact hk
  · exact h i (by omega)
theorem upTo_all {α : Type} {a b : List α} (h : upTo a.length a b) (hl : a.length = b.length) : a = b := by
  apply List.ext_getElem?
  intro i
  by_cases hi : i < a.length
  · exact h i hi
  · rw [List.getElem?_eq_none (by omega), List.getElem?_eq_none (by omega)]
/-- the two boxes -/
structure Two (w : World) (q p : Loc) (W : World) : Prop where
  a : CellsAt W w.heap.size 0 q
  b : CellsAt W (w.heap.size + 1) 0 p
  g : Below w.heap.size w W
  s : w.heap.size + 2 ≤ W.heap.size
theorem Two.start (q p : Loc) (w : World) : Two w q p ((w.alloc (.cells #[.int .i64 q.v.k, .int .i64 q.v.n, .int .u64 q.v.f, .string q.v.s, .slice q.ad q.v.l.length q.cap, .slice q.bd q.v.e.length q.dap] 26)).alloc
    (.cells #[.int .i64 p.v.k, .int .i64 p.v.n, .int .u64 p.v.f, .string p.v.s, .slice p.ad p.v.l.length p.cap, .slice p.bd p.v.e.length p.dap] 26)) := by
  refine ⟨?_, ?_, ((Below.refl _ w).alloc (Nat.le_refl _) _).alloc (by simp) _, by simp⟩
  · refine CellsAt.box (ty := 26) ?_
    rw [Below.heap_alloc _ _ _ (by simp)]
    exact heap_alloc_new w _
  · refine CellsAt.box (ty := 26) ?_
    have := heap_alloc_new (w.alloc (.cells #[.int .i64 q.v.k, .int .i64 q.v.n, .int .u64 q.v.f, .string q.v.s, .slice q.ad q.v.l.length q.cap, .slice q.bd q.v.e.length q.dap] 26)) (.cells #[.int .i64 p.v.k, .int .i64 p.v.n, .int .u64 p.v.f, .string p.v.s, .slice p.ad p.v.l.length p.cap, .slice p.bd p.v.e.length p.dap] 26)
    rwa [World.size_alloc] at this
theorem Two.keep {w : World} {q p : Loc} {W W' : World} (h : Two w q p W) (hb : Below W.heap.size W W') : Two w q p W' := by
  have hs := h.s
  exact ⟨h.a.through (hb.block _ (by omega)), h.b.through (hb.block _ (by omega)), h.g.trans (hb.mono h.g.size), by have := hb.size; omega⟩

set_option maxHeartbeats 8000000 in
theorem alike_step (v u : V) (ad bd ad' bd' : Option Addr) (cap dap cap' dap' : Nat) (w : World) (hq : VAt w (fun _ => True) ⟨v, ad, cap, bd, dap⟩) (hp : VAt w (fun _ => True) ⟨u, ad', cap', bd', dap'⟩)
    (ih : ∀ (q p : Loc) (w : World), SizeOf.sizeOf q.v < SizeOf.sizeOf v → VAt w (fun _ => True) q → VAt w (fun _ => True) p → Calls Tryd.prog 9 #[q.val, p.val] w (AlikePost q.v p.v w)) :
    Calls Tryd.prog 9 #[.agg #[.int .i64 v.k, .int .i64 v.n, .int .u64 v.f, .string v.s, .slice ad v.l.length cap, .slice bd v.e.length dap], .agg #[.int .i64 u.k, .int .i64 u.n, .int .u64 u.f, .string u.s, .slice ad' u.l.length cap', .slice bd' u.e.length dap']] w (AlikePost v u w) := by
  have HT := Lib.hid (Two.start ⟨v, ad, cap, bd, dap⟩ ⟨u, ad', cap', bd', dap'⟩ w)
  simp only at HT
  have HQ := Lib.hid hq
  have HP := Lib.hid hp
  have IH := Lib.hid ih
  have hl1 := hq.l.lbound
  have he1 := hq.e.ebound
  have hl2 := hp.l.lbound
  have he2 := hp.e.ebound
  simp only at hl1 he1 hl2 he2
  clear hq hp ih
  have no : ∀ W : World, v ≠ u → Below w.heap.size w W → AlikePost v u w (.returned (.bool false)) W := fun W h hb => ⟨false, rfl, ⟨fun e => by simp at e, fun e => absurd e h⟩, hb⟩
  have NO := Lib.hid no
  clear no
  have fl1 : ∀ a b : Nat, a ≠ b → ((a : Int) != (b : Int)) = true := fun a b h => by simp; omega
  have fl2 : ∀ a b : Nat, a ≠ b → (a != b) = true := fun a b h => by simp [h]
  have FL1 := Lib.hid fl1
  have FL2 := Lib.hid fl2
  clear fl1 fl2
  go_enter Tryd.func9, Tryd.ntmps9
  go_upto_region 1 with fail
  generalize hw2 : World.alloc (World.alloc w _) _ = w2 at HT ⊢
  clear hw2
  obtain ⟨a0, a1, a2, a3, a4, a5⟩ := HT.out.a
  obtain ⟨b0, b1, b2, b3, b4, b5⟩ := HT.out.b
  simp only at a0 a1 a2 a3 a4 a5 b0 b1 b2 b3 b4 b5
  by_cases e1 : v.k = u.k
  rotate_left
  · have t1 : (v.k != u.k) = true := by simpa using e1
    have HN := Lib.hid (NO.out _ (fun h => e1 (by rw [h])) HT.out.g)
    clear e1
    go_wp2_with fail
    try go_ret
    exact HN.out
  have t1 : (v.k != u.k) = false := by simpa using e1
  by_cases e2 : v.n = u.n
  rotate_left
  · have t2 : (v.n != u.n) = true := by simpa using e2
    have HN := Lib.hid (NO.out _ (fun h => e2 (by rw [h])) HT.out.g)
    clear e1 e2
    go_wp2_with fail
    try go_ret
    exact HN.out
  have t2 : (v.n != u.n) = false := by simpa using e2
  by_cases e3 : v.f = u.f
  rotate_left
  · have t3 : (v.f != u.f) = true := by simpa using e3
    have HN := Lib.hid (NO.out _ (fun h => e3 (by rw [h])) HT.out.g)
    clear e1 e2 e3
    go_wp2_with fail
    try go_ret
    exact HN.out
  have t3 : (v.f != u.f) = false := by simpa using e3
  by_cases e4 : v.s = u.s
  rotate_left
  · have t4 : (v.s.toList == u.s.toList) = false := by
      simp only [ByteArray.toList_eq, beq_eq_false_iff_ne, ne_eq]
      intro h; exact e4 (by cases hv : v.s; cases hu : u.s; rw [hv, hu] at h; congr 1; exact Array.toList_inj.1 h)
    have HN := Lib.hid (NO.out _ (fun h => e4 (by rw [h])) HT.out.g)
    clear e1 e2 e3 e4
    go_wp2_with fail
    try go_ret
    exact HN.out
  have t4 : (v.s.toList == u.s.toList) = true := by rw [e4]; simp
  by_cases e5 : v.l.length = u.l.length
  rotate_left
  · have t5 := FL1.out _ _ e5
    have t5' := FL2.out _ _ e5
    have HN := Lib.hid (NO.out _ (fun h => e5 (by rw [h])) HT.out.g)
    clear e1 e2 e3 e4 e5
    go_wp2_with fail
    try go_ret
    exact HN.out
  by_cases e6 : v.e.length = u.e.length
  rotate_left
  · have t5 : ((v.l.length : Int) != (u.l.length : Int)) = false := by simp [e5]
    have t5' : (v.l.length != u.l.length) = false := by simp [e5]
    have t6 := FL1.out _ _ e6
    have t6' := FL2.out _ _ e6
    have HN := Lib.hid (NO.out _ (fun h => e6 (by rw [h])) HT.out.g)
    clear e1 e2 e3 e4 e5 e6
    go_wp2_with fail
    try go_ret
    exact HN.out
  have HYES : Hid (v.l = u.l → v.e = u.e → v = u) := Lib.hid (fun x y => V.ext' e1 e2 e3 e4 x y)
  have t5 : ((v.l.length : Int) != (u.l.length : Int)) = false := by simp [e5]
  have t5' : (v.l.length != u.l.length) = false := by simp [e5]
  have t6 : ((v.e.length : Int) != (u.e.length : Int)) = false := by simp [e6]
  have t6' : (v.e.length != u.e.length) = false := by simp [e6]
  have E5 := Lib.hid e5
  have E6 := Lib.hid e6
  clear e1 e2 e3 e4 e5 e6
  obtain ⟨nl, hnl⟩ : ∃ nl, v.l.length = nl := ⟨_, rfl⟩
  obtain ⟨ne, hne⟩ : ∃ ne, v.e.length = ne := ⟨_, rfl⟩
  obtain ⟨ml, hml⟩ : ∃ ml, u.l.length = ml := ⟨_, rfl⟩
  obtain ⟨me, hme⟩ : ∃ me, u.e.length = me := ⟨_, rfl⟩
  rw [hnl] at a4 t5 t5' hl1 E5
  rw [hml] at b4 t5 t5' hl2 E5
  rw [hne] at a5 t6 t6' he1 E6
  rw [hme] at b5 t6 t6' he2 E6
  rw [hnl, hml, hne, hme]
  have HNL := Lib.hid hnl
  have HNE := Lib.hid hne
  have HML := Lib.hid hml
  have HME := Lib.hid hme
  clear hnl hne hml hme
  go_wp2_with fail
  clear t1 t2 t3 t4 t5 t5' t6 t6' a0 a1 a2 a3 a4 a5 b0 b1 b2 b3 b4 b5
  go_loopw [54] (fun v54 wr => ∃ k : Nat, k ≤ nl ∧ v54 = .int .i64 k ∧ Hid (Two w ⟨v, ad, cap, bd, dap⟩ ⟨u, ad', cap', bd', dap'⟩ wr) ∧ Hid (upTo k v.l u.l)) (fun v54 _ => nl - (intOf v54).toNat)
  case atStart => exact ⟨0, Nat.zero_le _, rfl, HT, Lib.hid (fun i hi => by omega)⟩
  case round =>
    obtain ⟨k, hk, rfl, HTr, HU⟩ := hrel
    clear HT
    by_cases hlt : k < nl
    · have hlt2 : k < ml := by have := E5.out; omega
      obtain ⟨x, hx⟩ : ∃ x, v.l[k]? = some x := ⟨_, List.getElem?_eq_getElem (by rw [HNL.out]; exact hlt)⟩
      obtain ⟨y, hy⟩ : ∃ y, u.l[k]? = some y := ⟨_, List.getElem?_eq_getElem (by rw [HML.out]; exact hlt2)⟩
      obtain ⟨b1, o1, hd1, -, hbl1, hcs1⟩ := HQ.out.l.elem (by show 0 < v.l.length; rw [HNL.out]; omega)
      obtain ⟨b2, o2, hd2, -, hbl2, hcs2⟩ := HP.out.l.elem (by show 0 < u.l.length; rw [HML.out]; omega)
      simp only at hd1 hd2
      subst hd1
      subst hd2
      obtain ⟨q1, hq1, hv1, hg1⟩ := hcs1 k x hx
      obtain ⟨q2, hq2, hv2, hg2⟩ := hcs2 k y hy
      clear hcs1 hcs2
      have hg := HTr.out.g
      obtain ⟨c0, c1, c2, c3, c4, c5⟩ := hg1.through (hg.block _ hbl1)
      obtain ⟨d0, d1, d2, d3, d4, d5⟩ := hg2.through (hg.block _ hbl2)
      have a4 := HTr.out.a.c4
      have b4 := HTr.out.b.c4
      simp only [HNL.out, HML.out] at a4 b4
      have r1 : (0 : Int) ≤ (k : Int) := by omega
      have r2 : (k : Int) < (nl : Int) := by omega
      have r3 : (k : Int) < (ml : Int) := by omega
      have r4 : (k : Int).toNat = k := rfl
      have hih := IH.out q1 q2 wr.drew (by rw [hq1]; exact V.lt_l (List.mem_of_getElem? hx)) ((hv1.keep hg).keep (Gx.drewN_below wr 1 _)) ((hv2.keep hg).keep (Gx.drewN_below wr 1 _))
      simp only [Loc.val] at hih
      have HIH := Lib.hid hih
      have HX : Hid (v.l[k]? = some q1.v) := Lib.hid (by rw [hx, hq1])
      have HY : Hid (u.l[k]? = some q2.v) := Lib.hid (by rw [hy, hq2])
      clear hx hy hq1 hq2 hv1 hv2 hg1 hg2 hg hih
      go_upto_region 6 with fail
      go_still_tail 10, (by kernel_rfl)
      change wpList _ _ _ _ _ wr.drew
      have HTd := Lib.hid (HTr.out.keep (Gx.drewN_below wr 1 _))
      generalize hwd : wr.drew = wd at HIH ⊢
      have HTd' : Hid (Two w ⟨v, some ⟨b1, o1, none⟩, cap, bd, dap⟩ ⟨u, some ⟨b2, o2, none⟩, cap', bd', dap'⟩ wd) := Lib.hid (by rw [← hwd]; exact HTd.out)
      clear hwd HTd HTr c0 c1 c2 c3 c4 c5 d0 d1 d2 d3 d4 d5 a4 b4
      go_wp2_with fail
      (with_reducible refine HIH.out.mono ?_)
      rintro e w3 ⟨b, rfl, hb, hbel⟩
      have HT3 := Lib.hid (HTd'.out.keep hbel)
      clear hbel HTd'
      cases b with
      | false =>
        have hne : v ≠ u := fun e => by
          have h1 := HX.out
          rw [e, HY.out] at h1
          have := hb.2 (Option.some.inj h1).symm
          cases this
        have HN := Lib.hid (NO.out _ hne HT3.out.g)
        clear hb hne
        go_wp2_with fail
        try go_ret
        exact HN.out
      | true =>
        have HU2 := Lib.hid (upTo_succ HU.out (by rw [HX.out, HY.out, hb.1 rfl]))
        clear hb
        go_wp2_with fail
        go_roundw
        case rel => exact ⟨k + 1, by omega, by go_num, HT3, HU2⟩
        case measure => simp [intOf]; omega
    · obtain rfl : k = nl := by omega
      have HLL : Hid (v.l = u.l) := Lib.hid (by have h := HU.out; rw [← HNL.out] at h; exact upTo_all h (by rw [HNL.out, HML.out]; exact E5.out))
      have a5 := HTr.out.a.c5
      simp only [HNE.out] at a5
      obtain ⟨wo, hwo⟩ : ∃ wo : World, wo = wr := ⟨_, rfl⟩
      rw [← hwo] at HTr a5 ⊢
      clear hwo wr HU hlt hk
      go_wp2_with fail
      clear a5
      go_loopw [73] (fun v73 wr => ∃ j : Nat, j ≤ ne ∧ v73 = .int .i64 j ∧ Hid (Two w ⟨v, ad, cap, bd, dap⟩ ⟨u, ad', cap', bd', dap'⟩ wr) ∧ Hid (upTo j v.e u.e)) (fun v73 _ => ne - (intOf v73).toNat)
      case atStart => exact ⟨0, Nat.zero_le _, rfl, HTr, Lib.hid (fun i hi => by omega)⟩
      case round =>
        obtain ⟨j, hj, rfl, HTq, HU⟩ := hrel
        clear HTr
        by_cases hlt : j < ne
        · have hlt2 : j < me := by have := E6.out; omega
          obtain ⟨x, hx⟩ : ∃ x, v.e[j]? = some x := ⟨_, List.getElem?_eq_getElem (by rw [HNE.out]; exact hlt)⟩
          obtain ⟨y, hy⟩ : ∃ y, u.e[j]? = some y := ⟨_, List.getElem?_eq_getElem (by rw [HME.out]; exact hlt2)⟩
          obtain ⟨b1, o1, hd1, -, hbl1, hcs1⟩ := HQ.out.e.entry (by show 0 < v.e.length; rw [HNE.out]; omega)
          obtain ⟨b2, o2, hd2, -, hbl2, hcs2⟩ := HP.out.e.entry (by show 0 < u.e.length; rw [HME.out]; omega)
          simp only at hd1 hd2
          subst hd1
          subst hd2
          obtain ⟨-, gk1, q1, hq1, hv1, hg1⟩ := hcs1 j x hx
          obtain ⟨-, gk2, q2, hq2, hv2, hg2⟩ := hcs2 j y hy
          clear hcs1 hcs2
          have hg := HTq.out.g
          have k1 : wr.cell? ⟨b1, o1 + j * 7, none⟩ = some (.string x.1) := (hg.cell (p := ⟨b1, _, none⟩) hbl1).trans gk1
          have k2 : wr.cell? ⟨b2, o2 + j * 7, none⟩ = some (.string y.1) := (hg.cell (p := ⟨b2, _, none⟩) hbl2).trans gk2
          obtain ⟨c0, c1, c2, c3, c4, c5⟩ := (hg1.through (hg.block _ hbl1)).seven
          obtain ⟨d0, d1, d2, d3, d4, d5⟩ := (hg2.through (hg.block _ hbl2)).seven
          have a5 := HTq.out.a.c5
          have b5 := HTq.out.b.c5
          simp only [HNE.out, HME.out] at a5 b5
          have r1 : (0 : Int) ≤ (j : Int) := by omega
          have r2 : (j : Int) < (ne : Int) := by omega
          have r3 : (j : Int) < (me : Int) := by omega
          have r4 : (j : Int).toNat = j := rfl
          have HX : Hid (v.e[j]? = some (x.1, q1.v)) := Lib.hid (by rw [hx, hq1])
          have HY : Hid (u.e[j]? = some (y.1, q2.v)) := Lib.hid (by rw [hy, hq2])
          by_cases hkk : x.1 = y.1
          · have hih := IH.out q1 q2 wr.drew (by rw [hq1]; exact V.lt_e (List.mem_of_getElem? hx)) ((hv1.keep hg).keep (Gx.drewN_below wr 1 _)) ((hv2.keep hg).keep (Gx.drewN_below wr 1 _))
            simp only [Loc.val] at hih
            have HIH := Lib.hid hih
            have t7 : (x.1.toList == y.1.toList) = true := by rw [hkk]; simp
            have HKK := Lib.hid hkk
            clear hx hy hq1 hq2 hv1 hv2 hg1 hg2 hg hih gk1 gk2 hkk
            go_upto_region 12 with fail
            go_still_tail 26, (by kernel_rfl)
            change wpList _ _ _ _ _ wr.drew
            have HTd := Lib.hid (HTq.out.keep (Gx.drewN_below wr 1 _))
            generalize hwd : wr.drew = wd at HIH ⊢
            have HTd' : Hid (Two w ⟨v, ad, cap, some ⟨b1, o1, none⟩, dap⟩ ⟨u, ad', cap', some ⟨b2, o2, none⟩, dap'⟩ wd) := Lib.hid (by rw [← hwd]; exact HTd.out)
            clear hwd HTd HTq c0 c1 c2 c3 c4 c5 d0 d1 d2 d3 d4 d5 a5 b5 k1 k2
            go_wp2_with fail
            (with_reducible refine HIH.out.mono ?_)
            rintro e w3 ⟨b, rfl, hb, hbel⟩
            have HT3 := Lib.hid (HTd'.out.keep hbel)
            clear hbel HTd'
            cases b with
            | false =>
              have hne : v ≠ u := fun e => by
                have h1 := HX.out
                rw [e, HY.out] at h1
                have := hb.2 (Prod.mk.inj (Option.some.inj h1)).2.symm
                cases this
              have HN := Lib.hid (NO.out _ hne HT3.out.g)
              clear hb hne
              go_wp2_with fail
              try go_ret
              exact HN.out
            | true =>
              have HU2 := Lib.hid (upTo_succ HU.out (by rw [HX.out, HY.out, hb.1 rfl, HKK.out]))
              clear hb
              go_wp2_with fail
              go_roundw
              case rel => exact ⟨j + 1, by omega, by go_num, HT3, HU2⟩
              case measure => simp [intOf]; omega
          · have t7 : (x.1.toList == y.1.toList) = false := by
              simp only [ByteArray.toList_eq, beq_eq_false_iff_ne, ne_eq]
              intro h; exact hkk (by cases hv : x.1; cases hu : y.1; rw [hv, hu] at h; congr 1; exact Array.toList_inj.1 h)
            have hne : v ≠ u := fun e => by
              have h1 := HX.out
              rw [e, HY.out] at h1
              exact hkk (Prod.mk.inj (Option.some.inj h1)).1.symm
            have HN := Lib.hid (fun n : Nat => NO.out (wr.drewN n) hne (HTq.out.g.trans (Gx.drewN_below wr n _)))
            clear hx hy hq1 hq2 hv1 hv2 hg1 hg2 hg gk1 gk2 hkk hne
            go_upto_region 12 with fail
            go_quiet (fail)
            go_wp2_with fail
            try go_ret
            exact HN.out nq
        · obtain rfl : j = ne := by omega
          have HEE : Hid (v.e = u.e) := Lib.hid (by have h := HU.out; rw [← HNE.out] at h; exact upTo_all h (by rw [HNE.out, HME.out]; exact E6.out))
          go_wp2_with fail
          try go_ret
          exact ⟨true, rfl, ⟨fun _ => HYES.out HLL.out HEE.out, fun _ => rfl⟩, HTq.out.g⟩
/-- alike, whatever two -/
theorem alike_any (q p : Loc) (w : World) (hq : VAt w (fun _ => True) q) (hp : VAt w (fun _ => True) p) : Calls Tryd.prog 9 #[q.val, p.val] w (AlikePost q.v p.v w) := by
  have key : ∀ (n : Nat) (q p : Loc) (w : World), SizeOf.sizeOf q.v ≤ n → VAt w (fun _ => True) q → VAt w (fun _ => True) p → Calls Tryd.prog 9 #[q.val, p.val] w (AlikePost q.v p.v w) := by
    intro n
    induction n with
    | zero => intro q p w h; cases q with | mk v _ _ _ _ => cases v; simp at h
    | succ n ih => exact fun q p w h hq hp => alike_step q.v p.v q.ad q.bd p.ad p.bd q.cap q.dap p.cap p.dap w hq hp (fun q' p' w' h' hq' hp' => ih q' p' w' (by omega) hq' hp')
  exact key _ q p w (Nat.le_refl _) hq hp
end Go.Proofs.YtpjigecmnefnhaaDoor
