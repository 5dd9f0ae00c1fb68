/-
  The contract of slices.IndexFunc at the first greater key. No conditions.
  The contract of val.Drop. No conditions.
  The contract of slices.Insert at entries: one entry, put into a row that a call made. No conditions.
  The contract of slices.Insert at entries: one entry, put into a row that a call made. No conditions.
  The contract of val.Put. No conditions.
-/
import Derived.Laws.CopyRow
import Derived.Laws.Externs
import Derived.Lib.Overlaps
import Derived.Lib.AppendZerosOnto
import Derived.Test.YtldhmfkojaekfaaGreatDoorMeanGoodAllPartP
set_option linter.unusedVariables false
namespace Go.Proofs.YtldhmfkojaekfaaGreatDoor
open Go.RowKit Gx
set_option maxRecDepth 100000
theorem gidx_at {s : ByteArray} {l : List (ByteArray × V)} {k : Nat} {y : ByteArray × V} (hy : l[k]? = some y) (h : gtK s y = true) (hlt : ∀ j z, j < k → l[j]? = some z → gtK s z = false) : gidx s l = k := by
  obtain ⟨hk, rfl⟩ := List.getElem?_eq_some_iff.1 hy
  unfold gidx
  rw [List.findIdx_eq hk]
  exact ⟨h, fun j hj => hlt j _ hj (List.getElem?_eq_getElem (by omega))⟩
theorem gidx_no {s : ByteArray} {l : List (ByteArray × V)} (hlt : ∀ j z, j < l.length → l[j]? = some z → gtK s z = false) : gidx s l = l.length := by
  unfold gidx
  rw [List.findIdx_eq_length]
  intro x hx
  obtain ⟨j, hj, rfl⟩ := List.getElem_of_mem hx
  exact hlt j _ hj (List.getElem?_eq_getElem hj)
theorem gidx_le (s : ByteArray) (l : List (ByteArray × V)) : gidx s l ≤ l.length := List.findIdx_le_length
set_option maxHeartbeats 1000000 in
theorem put1_any (x : ByteArray) (k n f : Int) (t : ByteArray) (sl se : Value) (K : Nat) (s : ByteArray) (w : World) (hK : w.cell? ⟨K, 0, none⟩ = some (.string s)) (b : Bool) (hb : (!Op.bytesLess x.toList s.toList && !(x.toList == s.toList)) = b) :
    Calls Tryz.prog 81 #[.agg #[.string x, .int .i64 k, .int .i64 n, .int .u64 f, .string t, sl, se], .pointer (some ⟨K, 0, none⟩)] w (KeyPostE b w) := by
  have hlt := World.block_lt_of_cell? w _ hK
  have hbl := (Below.refl w.heap.size w).alloc (Nat.le_refl _) (.cells #[.string x, .int .i64 k, .int .i64 n, .int .u64 f, .string t, sl, se] 44)
  have hk1 := (hbl.cell (p := ⟨K, 0, none⟩) hlt).trans hK
  have hx1 : (w.alloc (.cells #[.string x, .int .i64 k, .int .i64 n, .int .u64 f, .string t, sl, se] 44)).cell? ⟨w.heap.size, 0, none⟩ = some (.string x) := (seven_cells (heap_alloc_new w _)).1
  have HB := Lib.hid hbl
  clear hK hlt hbl
  go_enter Tryz.func81, Tryz.ntmps81
  go_upto_region 1 with fail
  generalize hw2 : World.alloc w _ = w2 at HB hk1 hx1 ⊢
  clear hw2
  go_wp2_with fail
  try go_ret
  exact ⟨by rw [← hb]; rfl, HB.out⟩
set_option maxHeartbeats 4000000 in
theorem indexPut_any (bd : Option Addr) (dap : Nat) (l : List (ByteArray × V)) (K : Nat) (s : ByteArray) (w : World) (h : RowAt w (fun _ => True) true l (.slice bd l.length dap)) (hK : w.cell? ⟨K, 0, none⟩ = some (.string s)) :
    Calls Tryz.prog 80 #[.slice bd l.length dap, .func (.func 81) #[] #[.pointer (some ⟨K, 0, none⟩)]] w (IdxPostE (gidx s l) l.length w) := by
  have hltK := World.block_lt_of_cell? w _ hK
  have HK := Lib.hid hK
  have H := Lib.hid h
  have hbn := h.ebound
  have HNO := Lib.hid (gidx_no (s := s) (l := l))
  have HAT := Lib.hid (fun k y => gidx_at (s := s) (l := l) (k := k) (y := y))
  obtain ⟨n, hn⟩ : ∃ n, l.length = n := ⟨_, rfl⟩
  rw [hn] at hbn HNO ⊢
  have HN := Lib.hid hn
  clear h hK hn
  go_enter Tryz.func80, Tryz.ntmps80
  go_wp2_with fail
  go_loopw [5, 8] (fun _ v wr => ∃ k : Nat, k ≤ n ∧ v = .int .i64 k ∧ Hid (∀ j z, j < k → l[j]? = some z → gtK s z = false) ∧ Hid (Below w.heap.size w wr)) (fun _ v _ => n - (intOf v).toNat)
  case atStart => exact ⟨0, Nat.zero_le _, rfl, Lib.hid (fun j z h => by omega), Lib.hid (Below.refl _ _)⟩
  case round =>
    obtain ⟨k, hk, rfl, HL, HB⟩ := hrel
    by_cases hlt : k < n
    · obtain ⟨x, hx⟩ : ∃ x, l[k]? = some x := ⟨_, List.getElem?_eq_getElem (by rw [HN.out]; exact hlt)⟩
      obtain ⟨b1, o1, hd1, -, hbl1, hcs1⟩ := H.out.entry (by rw [HN.out]; omega)
      subst hd1
      obtain ⟨-, gk1, q1, hq1, hv1, hg1⟩ := hcs1 k x hx
      clear hcs1
      have k1 : wr.cell? ⟨b1, o1 + k * 7, none⟩ = some (.string x.1) := (HB.out.cell (p := ⟨b1, _, none⟩) hbl1).trans gk1
      obtain ⟨c0, c1, c2, c3, c4, c5⟩ := (hg1.through (HB.out.block _ hbl1)).seven
      have hKr := (HB.out.cell (p := ⟨K, 0, none⟩) hltK).trans HK.out
      obtain ⟨b, hb⟩ : ∃ b, (!Op.bytesLess x.1.toList s.toList && !(x.1.toList == s.toList)) = b := ⟨_, rfl⟩
      have HC := Lib.hid (put1_any x.1 q1.v.k q1.v.n q1.v.f q1.v.s (.slice q1.ad q1.v.l.length q1.cap) (.slice q1.bd q1.v.e.length q1.dap) K s wr hKr b hb)
      have HX := Lib.hid hx
      have HBB := Lib.hid hb
      have r1 : (0 : Int) ≤ (k : Int) := by omega
      have r2 : (k : Int) < (n : Int) := by omega
      clear hx hq1 hv1 hg1 gk1 hb hKr
      go_wp2_with fail
      (with_reducible refine HC.out.mono ?_)
      rintro e w2 ⟨rfl, hb2⟩
      have HB2 := Lib.hid (HB.out.trans (hb2.mono HB.out.size))
      clear hb2 c0 c1 c2 c3 c4 c5 k1
      cases b with
      | true =>
        have hf := HAT.out k x HX.out HBB.out HL.out
        go_wp2_with fail
        try go_ret
        exact ⟨by rw [hf, if_pos hlt]; rfl, HB2.out⟩
      | false =>
        have HL2 : Hid (∀ j z, j < k + 1 → l[j]? = some z → gtK s z = false) := Lib.hid (fun j z hj hz => by
          by_cases e : j = k
          · subst e
            rw [HX.out] at hz
            cases hz
            exact HBB.out
          · exact HL.out j z (by omega) hz)
        go_wp2_with fail
        go_roundw
        case rel => exact ⟨k + 1, by omega, by go_num, HL2, HB2⟩
        case measure => simp [intOf]; omega
    · obtain rfl : k = n := by omega
      have hf := HNO.out HL.out
      go_wp2_with fail
      try go_ret
      exact ⟨by rw [hf, if_neg (Nat.lt_irrefl _)]; rfl, HB.out⟩
end Go.Proofs.YtldhmfkojaekfaaGreatDoor
namespace Go.Proofs.YtldhmfkojaekfaaGreatDoor
open Go.RowKit Gx
set_option maxRecDepth 100000
def DropPost (w : World) (vb : Nat) (xs : List (ByteArray × V)) (e : Ending) (w' : World) : Prop :=
  ∃ vo vc m ps, e = .returned (.slice vo m vc) ∧ ps.length = m ∧ Acc w' vb true 44 (.slice vo m vc) ps ∧ ps.map (fun p => (p.1, p.2.v)) = xs ∧ Below w.heap.size w w'
theorem drop_snoc (l : List (ByteArray × V)) (s : ByteArray) (x : ByteArray × V) : dropL (l ++ [x]) s = dropL l s ++ (if isK s x = true then [] else [x]) := by
  unfold dropL
  rw [List.filter_append, List.filter_cons]
  cases isK s x <;> rfl
set_option maxHeartbeats 8000000 in
theorem drop_any (bd : Option Addr) (dap n : Nat) (l : List (ByteArray × V)) (s : ByteArray) (w : World) (vb : Nat) (hvb : w.heap.size = vb + 1) (h : RowAt w (fun _ => True) true l (.slice bd n dap)) (hn : l.length = n) (hl : n ≤ 1000000) :
    Calls Tryz.prog 79 #[.slice bd n dap, .string s] w (DropPost w vb (dropL l s)) := by
  have H := Lib.hid h
  have HL := Lib.hid hn
  have HVB := Lib.hid hvb
  clear h hn hvb
  go_enter Tryz.func79, Tryz.ntmps79
  go_wp2_with fail
  go_loopw [5, 10] (fun v5 v10 wr => ∃ (k m : Nat) (ps : List (ByteArray × Loc)) (ao : Option Addr) (cp : Nat), k ≤ n ∧ m ≤ k ∧ v10 = .int .i64 k ∧ v5 = .slice ao m cp ∧ Hid (ps.length = m) ∧ Hid (Acc wr vb true 44 (.slice ao m cp) ps) ∧ Hid (ps.map (fun p => (p.1, p.2.v)) = dropL (l.take k) s) ∧ Hid (Below w.heap.size w wr)) (fun _ v10 _ => n - (intOf v10).toNat)
  case atStart => exact ⟨0, 0, [], none, 0, Nat.zero_le _, Nat.le_refl _, rfl, rfl, Lib.hid rfl, Lib.hid (Acc.nil _ _ _ _), Lib.hid (by rw [List.take_zero]; rfl), Lib.hid (Below.refl _ _)⟩
  case round =>
    obtain ⟨k, m, ps, ao, cp, hk, hm, rfl, rfl, HN, HA, HTK, HB⟩ := hrel
    by_cases hlt : k < n
    · obtain ⟨x, hx⟩ : ∃ x, l[k]? = some x := ⟨_, List.getElem?_eq_getElem (by rw [HL.out]; exact hlt)⟩
      have hrow := H.out
      rw [← HL.out] at hrow
      obtain ⟨b1, o1, hd1, -, hbl1, hcs1⟩ := hrow.entry (by rw [HL.out]; omega)
      subst hd1
      obtain ⟨hkl, gk1, q1, hq1, hv1, hg1⟩ := hcs1 k x hx
      clear hcs1 hrow
      have hg := HB.out
      have k1 : wr.cell? ⟨b1, o1 + k * 7, none⟩ = some (.string x.1) := (hg.cell (p := ⟨b1, _, none⟩) hbl1).trans gk1
      obtain ⟨c0, c1, c2, c3, c4, c5⟩ := (hg1.through (hg.block _ hbl1)).seven
      have r1 : (0 : Int) ≤ (k : Int) := by omega
      have r2 : (k : Int) < (n : Int) := by omega
      have r4 : (k : Int).toNat = k := rfl
      obtain ⟨t, ht⟩ : ∃ t, x.1 = t := ⟨_, rfl⟩
      have HX : Hid (l[k]? = some (t, q1.v)) := Lib.hid (by rw [hx, hq1, ← ht])
      rw [ht] at hkl k1
      have hba := (Below.refl wr.heap.size wr).alloc (Nat.le_refl _) (.cells #[.string t, .int .i64 q1.v.k, .int .i64 q1.v.n, .int .u64 q1.v.f, .string q1.v.s, .slice q1.ad q1.v.l.length q1.cap, .slice q1.bd q1.v.e.length q1.dap] 44)
      have hab := HA.out.grow (grown_none hba) (fun _ e => absurd e (by simp))
      have hvv := (hv1.keep hg).keep hba
      have hcb := heap_alloc_new wr (.cells #[.string t, .int .i64 q1.v.k, .int .i64 q1.v.n, .int .u64 q1.v.f, .string q1.v.s, .slice q1.ad q1.v.l.length q1.cap, .slice q1.bd q1.v.e.length q1.dap] 44)
      have hgb := hg.trans (hba.mono hg.size)
      have hvl : vb < (wr.alloc (.cells #[.string t, .int .i64 q1.v.k, .int .i64 q1.v.n, .int .u64 q1.v.f, .string q1.v.s, .slice q1.ad q1.v.l.length q1.cap, .slice q1.bd q1.v.e.length q1.dap] 44)).heap.size := by have := HVB.out; have := hgb.size; omega
      have hxl : wr.heap.size < (wr.alloc (.cells #[.string t, .int .i64 q1.v.k, .int .i64 q1.v.n, .int .u64 q1.v.f, .string q1.v.s, .slice q1.ad q1.v.l.length q1.cap, .slice q1.bd q1.v.e.length q1.dap] 44)).heap.size := by simp
      clear hx hq1 hv1 hg1 hg hba HA HB gk1 ht
      go_upto_region 5 with fail
      generalize hwx : World.alloc wr _ = wx at hab hvv hcb hgb hvl hxl ⊢
      generalize hxb : wr.heap.size = xb at hcb hxl ⊢
      obtain ⟨e0, e1, e2, e3, e4, e5, e6⟩ := seven_cells hcb
      clear hwx hxb c0 c1 c2 c3 c4 c5 k1
      by_cases heq : isK s (t, q1.v) = true
      · have t1 : (t.toList == s.toList) = true := heq
        have HTK2 : Hid (ps.map (fun p => (p.1, p.2.v)) = dropL (l.take (k + 1)) s) := Lib.hid (by
          rw [take_snoc HX.out, drop_snoc, if_pos heq, List.append_nil]; exact HTK.out)
        have HAx := Lib.hid hab
        have HBx := Lib.hid hgb
        clear heq hab hgb hvv hcb
        go_wp2_with fail
        go_roundw
        case rel => exact ⟨k + 1, m, ps, ao, cp, by omega, by omega, by go_num, rfl, HN, HAx, HTK2, HBx⟩
        case measure => simp [intOf]; omega
      · have t1 : (t.toList == s.toList) = false := by have := heq; unfold isK at this; simpa using this
        have HTK2 : Hid (∀ p : Loc, p.v = q1.v → (ps ++ [(t, p)]).map (fun p => (p.1, p.2.v)) = dropL (l.take (k + 1)) s) := Lib.hid (fun p hp => by
          rw [take_snoc HX.out, drop_snoc, if_neg heq, List.map_append, HTK.out, ← hp]; rfl)
        have HAd : Hid (Acc wx.drew vb true 44 (.slice ao m cp) ps) := Lib.hid (hab.grow (r := none) ⟨rfl, rfl, rfl, Nat.le_refl _, fun _ _ _ => rfl⟩ (fun _ e => absurd e (by simp)))
        have HBd : Hid (Below w.heap.size w wx.drew) := Lib.hid (hgb.trans (Gx.drewN_below wx 1 _))
        have hih := own_any' q1 wx.drew (hvv.keep (Gx.drewN_below wx 1 _))
        simp only [Loc.val] at hih
        have HCd := Lib.hid hih
        have HE0 : Hid (wx.drew.cell? ⟨xb, 0, none⟩ = some (.string t)) := Lib.hid e0
        have HXL : Hid (xb < wx.drew.heap.size) := Lib.hid hxl
        have HVL : Hid (vb < wx.drew.heap.size) := Lib.hid hvl
        clear heq hab hgb hvv hcb hih hvl hxl
        go_wp2_with fail
        go_region_law (first
          | (go_simp; (with_reducible refine HCd.out.mono ?_); rintro e w5 ⟨p, rfl, hpv, hp, hb5⟩; have k5e := (hb5.cell (p := ⟨xb, 0, none⟩) HXL.out).trans HE0.out; have HA5 := Lib.hid (HAd.out.grow (grown_none hb5) (fun _ e => absurd e (by simp))); have HV5 := Lib.hid (Nat.lt_of_lt_of_le HVL.out hb5.size); have HQ5 := Lib.hid (HAd.out.fresh HVL.out hp); have HB5 := Lib.hid (HBd.out.trans (hb5.mono HBd.out.size)); have HPV := Lib.hid hpv; clear hp hb5 hpv; simp only [Loc.val])
          | (refine step_acc Tryz.underlying24 Tryz.info_ent rfl (by decide) rfl (.tmp 18) (.tmp 25) rfl HA5.out HV5.out (t, p) HQ5.out hkl _ rfl rfl rfl m HN.out (by omega) (by omega) ?_; intro ao6 c6 w6 ha6 hg6; have hb6 := HB5.out.grown hg6 HB5.out.size (fun b e => by have := (HA5.out.above b e); have := HVB.out; omega); have HA6 := Lib.hid ha6; have HB6 := Lib.hid hb6; clear ha6 hg6 hb6))
        all_goals
          have H3 : Hid ((ps ++ [(t, p)]).length = m + 1) := Lib.hid (by rw [List.length_append, HN.out]; rfl)
          have H5 := Lib.hid (HTK2.out p HPV.out)
          go_wp2_with fail
          go_roundw
          case rel => exact ⟨k + 1, m + 1, ps ++ [(t, p)], ao6, c6, by omega, by omega, by go_num, rfl, H3, HA6, H5, HB6⟩
          case measure => simp [intOf]; omega
    · obtain rfl : k = n := by omega
      have hall : ps.map (fun p => (p.1, p.2.v)) = dropL l s := by
        have := HTK.out
        rw [← HL.out, List.take_length] at this
        exact this
      have HALL := Lib.hid hall
      clear hall
      go_wp2_with fail
      try go_ret
      exact ⟨ao, cp, m, ps, rfl, HN.out, HA.out, HALL.out, HB.out⟩
end Go.Proofs.YtldhmfkojaekfaaGreatDoor
namespace Go.Proofs.YtldhmfkojaekfaaGreatDoor
open Go.RowKit Gx
set_option maxRecDepth 100000
/-- cells laid over others -/
def ovl {α : Type} (L : List α) (o : Nat) (cs : List α) : List α := L.take o ++ (cs ++ L.drop (o + cs.length))
theorem ovl_len {α : Type} {L : List α} {o : Nat} {cs : List α} (h : o + cs.length ≤ L.length) : (ovl L o cs).length = L.length := by unfold ovl; simp; omega
section
variable {P : Program}
/-- copy, whatever an element's size -/
theorem run_copy_wide (w : World) (dT sT ty elem : TypeId) (k g o dLen dCap : Nat) (a : Addr) (sLen sCap : Nat) (cur : Array Value) (t : TypeId) (cs : List Value)
    (hu : P.underlying dT = some (.slice elem)) (hs : (P.info? elem).map (·.size) = some k) (hg : w.heap[g]? = some (.cells cur t (0, 0))) (hn : cs.length = Nat.min sLen dLen * k)
    (hsrc : ∀ j v, cs[j]? = some v → w.cell? (a.add j) = some v) (hfit : o + cs.length ≤ cur.size) (h1 : ∀ v ∈ cs, v.oneCell' = true) :
    (Builtin.copy_ #[dT, sT] ty #[.slice (some ⟨g, o, none⟩) dLen dCap, .slice (some a) sLen sCap]).run P w = .ok (goInt (Nat.min sLen dLen)) (w.setRow g (ovl cur.toList o cs).toArray) := by
  have hl := run_loadCells_list (P := P) w a cs hsrc
  have hst := run_storeCells_at P g o t cs 0 cur w hg (by simpa using hfit) h1
  rw [Nat.add_zero, List.append_assoc] at hst
  unfold ovl
  cases hq : P.info? elem with
  | none => simp [hq] at hs
  | some i =>
    have hi : i.size = k := by simpa [hq] using hs
    simp [Builtin.copy_, run_underlying hu, Builtin.lenOf, Builtin.firstCells, sizeOf, typeInfo, hq, hi, ← hn, hl, hst]
theorem wp_copy_eq {ops : Array Oper} {o : Oper} {ac : Act} {w : World} {K : Act → World → Prop} {Q : Exit → Act → World → Prop} (d x : Operand) (dT sT : TypeId) (ho : o.op = .call { callee := .builtin .copy, args := #[d, x], argTypes := #[dT, sT] })
    (v u : Value) (hd : ac.eval d = v) (hx : ac.eval x = u) {r : Value} {w' : World} (hr : (Builtin.copy_ #[dT, sT] o.type #[v, u]).run P w = .ok r w') (hK : K (ac.put o.dst r) w') : Oper.wp P o ac w K Q := by
  unfold Oper.wp execOp
  simp only [ho, resolve, invoke, builtin, Sem.run_bind, Sem.run_pure, Result.andThen_ok, List.map_toArray, List.map_cons, List.map_nil, hd, hx, hr]
  exact hK
theorem step_copy_eq {ops : Array Oper} {o : Oper} {ac : Act} {w : World} {K : Act → World → Prop} {Q : Exit → Act → World → Prop} {F : Prop} (hgd : o.guard = none) (d x : Operand) (dT sT : TypeId) (ho : o.op = .call { callee := .builtin .copy, args := #[d, x], argTypes := #[dT, sT] })
    (v u : Value) (hd : ac.eval d = v) (hx : ac.eval x = u) {r : Value} {w' : World} (hr : (Builtin.copy_ #[dT, sT] o.type #[v, u]).run P w = .ok r w') (hK : K (ac.put o.dst r) w') : if Region.wanted o (yielded ops ac.tmps) = true then Oper.wp P o ac w K Q else F := by
  have hw : Region.wanted o (yielded ops ac.tmps) = true := by simp [Region.wanted, hgd]
  rw [if_pos hw]
  exact wp_copy_eq (ops := ops) d x dT sT ho v u hd hx hr hK
theorem wpl_append_eq {w : World} {ops : Array Oper} {rest : List Oper} {o : Oper} {ac : Act} {Q : Exit → Act → World → Prop} (hgd : o.guard = none) (d x : Operand) (dT sT : TypeId) (ho : o.op = .call { callee := .builtin .append, args := #[d, x], argTypes := #[dT, sT] })
    (v u : Value) (hd : ac.eval d = v) (hx : ac.eval x = u) {r : Value} {w' : World} (hr : (Builtin.append_ #[dT, sT] o.type #[v, u]).run P w = .ok r w') (h : wpList P ops Q rest (ac.put o.dst r) w') : wpList P ops Q (o :: rest) ac w := by
  refine wpList_plain hgd fun K hK => ?_
  unfold Oper.wp execOp
  simp only [ho, resolve, invoke, builtin, Sem.run_bind, Sem.run_pure, Result.andThen_ok, List.map_toArray, List.map_cons, List.map_nil, hd, hx, hr]
  exact hK _ _ h
end
theorem setRow_size (w : World) (g : Nat) (a : Array Value) : (w.setRow g a).heap.size = w.heap.size := by simp [World.setRow]
theorem setRow_grown (w : World) (g : Nat) (a : Array Value) : w.grownBy (w.setRow g a) (some g) := ⟨rfl, rfl, rfl, by simp [World.setRow], fun k _ hk => setRow_other w g k a (fun e => hk (by rw [e]))⟩

/-- the entry lies amid the others -/
def insC (xs news : List Value) (i : Nat) : List Value := xs.take (i * 7) ++ (news ++ xs.drop (i * 7))
def InsPost (w : World) (base : Nat) (v : Value) (n i : Nat) (xs news : List Value) (e : Ending) (w' : World) : Prop :=
  ∃ vo vc, e = .returned (.slice vo (n + 1) vc) ∧ w'.ownsRow base 44 7 (.slice vo (n + 1) vc) (n + 1) (insC xs news i) ∧ w.grownBy w' v.ownBlock ∧ Moved v (.slice vo (n + 1) vc) w.heap.size
/-- in place -/
theorem ovl_twice {α : Type} (cur B news : List α) (a k : Nat) (hk : news.length = k) (hc : a + k + B.length ≤ cur.length) : (ovl (ovl cur (a + k) B) a news).take (a + k + B.length) = cur.take a ++ (news ++ B) := by
  have h1 : (cur.take (a + k)).length = a + k := by rw [List.length_take]; omega
  have e1 : (ovl cur (a + k) B).take a = cur.take a := by
    unfold ovl
    rw [List.take_append_of_le_length (by omega), List.take_take, Nat.min_eq_left (by omega)]
  have e2 : (ovl cur (a + k) B).drop (a + k) = B ++ cur.drop (a + k + B.length) := by
    unfold ovl
    exact List.drop_left' h1
  have e3 : ovl (ovl cur (a + k) B) a news = (ovl cur (a + k) B).take a ++ (news ++ (ovl cur (a + k) B).drop (a + news.length)) := rfl
  rw [e3, e1, hk, e2, ← List.append_assoc, ← List.append_assoc, List.append_assoc (cur.take a), List.append_assoc (cur.take a)]
  rw [← List.append_assoc (cur.take a) (news ++ B)]
  rw [List.take_left' (by rw [List.length_append, List.length_append, List.length_take, hk]; omega)]
theorem ovl_room {cur xs news : List Value} {n i : Nat} (hx : cur.take (n * 7) = xs) (hi : i ≤ n) (hnl : news.length = 7) (hc : (n + 1) * 7 ≤ cur.length) : (ovl (ovl cur ((i + 1) * 7) (xs.drop (i * 7))) (i * 7) news).take ((n + 1) * 7) = insC xs news i := by
  subst hx
  have h2 : ((cur.take (n * 7)).drop (i * 7)).length = (n - i) * 7 := by rw [List.length_drop, List.length_take]; omega
  have h := ovl_twice cur ((cur.take (n * 7)).drop (i * 7)) news (i * 7) 7 hnl (by rw [h2]; omega)
  rw [h2, show i * 7 + 7 = (i + 1) * 7 by omega, show (i + 1) * 7 + (n - i) * 7 = (n + 1) * 7 by omega] at h
  rw [h]
  unfold insC
  rw [List.take_take, Nat.min_eq_left (by omega)]
theorem insC_len {xs news : List Value} {n i : Nat} (hx : xs.length = n * 7) (hi : i ≤ n) (hnl : news.length = 7) : (insC xs news i).length = (n + 1) * 7 := by
  unfold insC
  rw [List.length_append, List.length_append, List.length_take, List.length_drop, hnl, hx]
  omega

set_option maxHeartbeats 4000000 in
theorem insert_room (w : World) (base g n c i vb : Nat) (cur : Array Value) (xs news : List Value) (hbg : base ≤ g) (hg : w.heap[g]? = some (.cells cur 44 (0, 0))) (hcs : cur.size = c * 7) (hcm : c ≤ maxLen) (htk : cur.toList.take (n * 7) = xs)
    (hi : i < n) (hn : n ≤ 1000000) (hroom : n + 1 ≤ c) (hnl : news.length = 7) (h1 : ∀ u ∈ news, u.oneCell' = true) (hx1 : ∀ u ∈ xs, u.oneCell' = true) (hvb : w.heap[vb]? = some (.cells news.toArray 44)) (hne : vb ≠ g) :
    Calls Tryz.prog 82 #[.slice (some ⟨g, 0, none⟩) n c, .int .i64 i, .slice (some ⟨vb, 0, none⟩) 1 1] w (InsPost w base (.slice (some ⟨g, 0, none⟩) n c) n i xs news) := by
  have hc63 : c ≤ 9223372036854775807 := by unfold maxLen at hcm; omega
  have hsz : (Tryz.prog.info? 44).map (·.size) = some 7 := by
    obtain ⟨i0, hi0, -, h2, -⟩ := info_parts Tryz.info_ent
    rw [hi0]; simp [h2]
  obtain ⟨W1, hW1⟩ : ∃ W1, W1 = w.drew.setRow g (ovl cur.toList ((i + 1) * 7) (xs.drop (i * 7))).toArray := ⟨_, rfl⟩
  obtain ⟨W2, hW2⟩ : ∃ W2, W2 = W1.setRow g (ovl (ovl cur.toList ((i + 1) * 7) (xs.drop (i * 7))) (i * 7) news).toArray := ⟨_, rfl⟩
  have hxl : xs.length = n * 7 := by rw [← htk, List.length_take, Array.length_toList, hcs]; omega
  have hdl : (xs.drop (i * 7)).length = (n - i) * 7 := by rw [List.length_drop, hxl]; omega
  have hcell : ∀ j u, xs[j]? = some u → w.cell? ⟨g, j, none⟩ = some u := fun j u hj => by
    rw [← htk, List.getElem?_take] at hj
    split at hj
    · simp [World.cell?, hg]; simpa using hj
    · cases hj
  have hg1 : W1.heap[g]? = some (.cells (ovl cur.toList ((i + 1) * 7) (xs.drop (i * 7))).toArray 44 (0, 0)) := by rw [hW1]; exact setRow_heap w.drew g cur _ _ _ hg
  have hol : (ovl cur.toList ((i + 1) * 7) (xs.drop (i * 7))).length = c * 7 := by rw [ovl_len (by rw [hdl, Array.length_toList, hcs]; omega), Array.length_toList, hcs]
  have hv1 : W1.heap[vb]? = some (.cells news.toArray 44) := by rw [hW1]; exact (setRow_other w.drew g vb _ hne).trans hvb
  have hcp1 : ∀ ty dc sc, (Builtin.copy_ #[24, 24] ty #[.slice (some ⟨g, (i + 1) * 7, none⟩) (n - i) dc, .slice (some ⟨g, i * 7, none⟩) (n + 1 - i) sc]).run Tryz.prog w.drew = .ok (goInt (Nat.min (n + 1 - i) (n - i))) W1 := fun ty dc sc => by
    rw [hW1]
    refine run_copy_wide w.drew _ _ ty 44 7 g ((i + 1) * 7) _ dc ⟨g, i * 7, none⟩ _ sc cur 44 (xs.drop (i * 7)) Tryz.underlying24 hsz hg (by rw [hdl]; simp only [Nat.min_def]; split <;> omega) (fun j v hj => ?_) (by rw [hdl, hcs]; omega) (fun v hv => hx1 v (List.mem_of_mem_drop hv))
    rw [Addr.add_lit]
    rw [List.getElem?_drop] at hj
    exact hcell _ v hj
  have hcp2 : ∀ ty dc, (Builtin.copy_ #[24, 24] ty #[.slice (some ⟨g, i * 7, none⟩) (n + 1 - i) dc, .slice (some ⟨vb, 0, none⟩) 1 1]).run Tryz.prog W1 = .ok (goInt (Nat.min 1 (n + 1 - i))) W2 := fun ty dc => by
    rw [hW2]
    have := run_copy_wide W1 24 24 ty 44 7 g (i * 7) (n + 1 - i) dc ⟨vb, 0, none⟩ 1 1 _ 44 news Tryz.underlying24 hsz hg1 (by rw [hnl]; simp only [Nat.min_def]; split <;> omega) (fun j v hj => by
      rw [Addr.add_lit]
      simp [World.cell?, hv1]; simpa using hj) (by rw [hnl]; simp [hol]; omega) h1
    simpa using this
  have hpost : InsPost w base (.slice (some ⟨g, 0, none⟩) n c) n i xs news (.returned (.slice (some ⟨g, 0, none⟩) (n + 1) c)) W2 := by
    have hg2 : W2.heap[g]? = some (.cells (ovl (ovl cur.toList ((i + 1) * 7) (xs.drop (i * 7))) (i * 7) news).toArray 44 (0, 0)) := by rw [hW2]; exact setRow_heap W1 g _ _ _ _ hg1
    refine ⟨_, _, rfl, ⟨insC_len hxl (by omega) hnl, .inr ⟨g, c, _, rfl, hbg, hg2, hroom, hcm, ?_, ?_⟩⟩, ?_, .inl rfl⟩
    · rw [List.size_toArray, ovl_len (by rw [hnl, hol]; omega), hol]
    · exact ovl_room htk (by omega) hnl (by rw [Array.length_toList, hcs]; omega)
    · have g1 := setRow_grown w.drew g (ovl cur.toList ((i + 1) * 7) (xs.drop (i * 7))).toArray
      rw [← hW1] at g1
      have g2 := setRow_grown W1 g (ovl (ovl cur.toList ((i + 1) * 7) (xs.drop (i * 7))) (i * 7) news).toArray
      rw [← hW2] at g2
      exact ⟨g2.os.trans g1.os, g2.tape.trans g1.tape, g2.output.trans g1.output, Nat.le_trans g1.size g2.size, fun k hk hkn => (g2.block k (Nat.lt_of_lt_of_le hk g1.size) hkn).trans (g1.block k hk hkn)⟩
  have hsa : w.shape? vb = some (44, 7) := by simp [World.shape?, hvb, hnl]
  have hsb : w.shape? g = some (44, c * 7) := by simp [World.shape?, hg, hcs]
  have hfa : ∀ j, w.frozen? ⟨vb, j, none⟩ = false := fun j => by simp [World.frozen?, hvb]
  have hov : ∀ lb cb, (callFunc 100 #[.slice (some ⟨vb, 0, none⟩) 1 1, .slice (some ⟨g, (i + 1) * 7, none⟩) lb cb]).run Tryz.prog w = .ok (.value (.bool false)) w := fun lb cb => by
    rw [run_callFunc_extern (e := Extern.SlicesOverlaps.overlaps #[24, 24] #[4]) Tryz.func100 (by kernel_rfl) (by kernel_rfl) (by kernel_rfl) (by kernel_rfl),
      Lib.run_overlaps_apart w 24 4 44 Tryz.underlying24 7 (fun w => by obtain ⟨i0, hi0, -, h2, -⟩ := info_parts Tryz.info_ent; simp [sizeOf, typeInfo, hi0, h2]) ⟨vb, 0, none⟩ ⟨g, (i + 1) * 7, none⟩ 1 1 lb cb hne 44 44 7 (c * 7) hsa hsb (by omega) (hfa 0) (hfa 7)]
    rfl
  have HP := Lib.hid hpost
  have H1 := Lib.hid hcp1
  have H2 := Lib.hid hcp2
  have HOV := Lib.hid hov
  have z1 : ((1 : Int) == 0) = false := by decide
  have z2 : ((i : Int) == (n : Int)) = false := by simp; omega
  have z3 : decide ((c : Int) < (n : Int) + 1) = false := decide_eq_false (by omega)
  have b1 : (0 : Int) ≤ (i : Int) := by omega
  have b2 : (i : Int) ≤ (n : Int) := by omega
  have b3 : (i : Int) ≤ (c : Int) := by omega
  have b4 : (n : Int) + 1 ≤ (c : Int) := by omega
  have b5 : (i : Int) + 1 ≤ (n : Int) + 1 := by omega
  have b6 : (i : Int) ≤ (n : Int) + 1 := by omega
  have b9 : (0 : Int) ≤ (i : Int) + 1 := by omega
  have b7 : ((i : Int) + 1).toNat = i + 1 := by omega
  have b8 : ((n : Int) + 1).toNat = n + 1 := by omega
  have c1 : ¬ (c = i) := by omega
  have c2 : ¬ (c = i + 1) := by omega
  have q1 : IntKind.i64.wrap ((i : Int) + 1) = (i : Int) + 1 := by rw [IntKind.wrap_i64]; omega
  have q2 : IntKind.i64.wrap ((n : Int) + 1) = (n : Int) + 1 := by rw [IntKind.wrap_i64]; omega
  clear hpost hcp1 hcp2 hov hcell hsa hsb hfa hg1 hv1 hol hxl hdl hg hvb hW1 hW2 htk hcs hcm hx1 h1 hnl hbg hsz
  go_enter Tryz.func82, Tryz.ntmps82
  go_wp2_with (simp only [HOV.out])
  go_region_law (refine step_copy_eq rfl _ _ 24 24 rfl _ _ (by simp [Act.eval, Act.put]; rfl) (by simp [Act.eval, Act.put]; rfl) (H1.out _ _ _) ?_)
  all_goals
    have h2 := fun ty dc => H2.out ty dc
    clear H1 H2
    go_wp2_with fail
    try go_ret
    exact HP.out

set_option maxHeartbeats 4000000 in
theorem insert_grow (w : World) (base g n c i vb : Nat) (cur : Array Value) (xs news : List Value) (hb : base ≤ w.heap.size) (hbg : base ≤ g) (hg : w.heap[g]? = some (.cells cur 44 (0, 0))) (hcs : cur.size = c * 7) (hnc : n ≤ c) (hcm : c ≤ maxLen) (htk : cur.toList.take (n * 7) = xs)
    (hi : i < n) (hn : n ≤ 1000000) (hroom : c < n + 1) (hnl : news.length = 7) (h1 : ∀ u ∈ news, u.oneCell' = true) (hx1 : ∀ u ∈ xs, u.oneCell' = true) (hvb : w.heap[vb]? = some (.cells news.toArray 44)) :
    Calls Tryz.prog 82 #[.slice (some ⟨g, 0, none⟩) n c, .int .i64 i, .slice (some ⟨vb, 0, none⟩) 1 1] w (InsPost w base (.slice (some ⟨g, 0, none⟩) n c) n i xs news) := by
  have hc63 : c ≤ 9223372036854775807 := by unfold maxLen at hcm; omega
  obtain ⟨i0, hi0, hz0, hz1, hz2⟩ := info_parts Tryz.info_ent
  have hsz : (Tryz.prog.info? 44).map (·.size) = some 7 := by rw [hi0]; simp [hz1]
  have hxl : xs.length = n * 7 := by rw [← htk, List.length_take, Array.length_toList, hcs]; omega
  have hcell : ∀ j u, xs[j]? = some u → w.cell? ⟨g, j, none⟩ = some u := fun j u hj => by
    rw [← htk, List.getElem?_take] at hj
    split at hj
    · simp [World.cell?, hg]; simpa using hj
    · cases hj
  have hgw : g < w.heap.size := (Array.getElem?_eq_some_iff.1 hg).1
  have hvw : vb < w.heap.size := (Array.getElem?_eq_some_iff.1 hvb).1
  obtain ⟨Z, hZ⟩ : ∃ Z, (Value.agg #[.string ⟨#[]⟩, .int .i64 0, .int .i64 0, .int .u64 0, .string ⟨#[]⟩, .slice none 0 0, .slice none 0 0]).cells = Z := ⟨_, rfl⟩
  have hZ7 : Z.size = 7 := by rw [← hZ]; rfl
  obtain ⟨G, hG⟩ : ∃ G, G = grownCap w (n + 1) c 44 := ⟨_, rfl⟩
  have hGn : n + 1 ≤ G := by rw [hG]; exact grownCap_ge w _ _ _
  have hGm : G ≤ maxLen := by rw [hG]; exact grownCap_le_maxLen w (n + 1) c _ (by unfold maxLen; omega)
  obtain ⟨ROW, hROW⟩ : ∃ ROW : List Value, ROW = xs.take (i * 7) ++ ((Builtin.zeroCells Z (n + 1 - i)).toList ++ (Builtin.zeroCells Z (G - (n + 1))).toList) := ⟨_, rfl⟩
  have hzl : ∀ k, (Builtin.zeroCells Z k).size = k * 7 := fun k => by simp [Builtin.zeroCells, hZ7]
  have hRl : ROW.length = G * 7 := by
    have l1 := hzl (n + 1 - i)
    have l2 := hzl (G - (n + 1))
    rw [← Array.length_toList] at l1 l2
    rw [hROW, List.length_append, List.length_append, List.length_take, l1, l2, hxl]
    omega
  obtain ⟨W0, hW0⟩ : ∃ W0, W0 = w.drew.alloc (.cells ROW.toArray 44) := ⟨_, rfl⟩
  have hold : (Builtin.firstCells i0.size i (.slice (some ⟨g, 0, none⟩) i c)).run Tryz.prog w.drew = .ok (xs.take (i * 7)).toArray w.drew := by
    rw [hz1]
    exact run_firstCells_some w.drew 7 i ⟨g, 0, none⟩ i c (xs.take (i * 7)) (by rw [List.length_take]; omega) (fun j v hj => by
      rw [Addr.add_lit, Nat.zero_add]
      rw [List.getElem?_take] at hj
      split at hj
      · exact hcell j v hj
      · cases hj)
  have hik : i + (n + 1 - i) = n + 1 := by omega
  have hrz : ∀ ty, (Builtin.append_ #[24, 3] ty #[.slice (some ⟨g, 0, none⟩) i c, .int .i64 ((n : Int) + 1 - (i : Int))]).run Tryz.prog w = .ok (.slice (some ⟨w.heap.size, 0, none⟩) (n + 1) G) W0 := fun ty => by
    have h := Lib.run_append_grow_zeros w 24 3 ty 44 i0 _ .i64 .i64 Tryz.underlying24 Tryz.underlying3 hi0 hz0 (some ⟨g, 0, none⟩) i c (xs.take (i * 7)) hold (n + 1 - i) (by omega) (by rw [hz1]; decide) (by omega) (by omega) (by rw [hz2]; omega) (by rw [hz2, hik]; exact growslice_fits (by omega) (by omega))
    rw [hik] at h
    rw [show (n : Int) + 1 - (i : Int) = ((n + 1 - i : Nat) : Int) by omega, h, hW0, hROW, hG, hZ]
    congr 3
    simp [← Array.toList_inj]
  obtain ⟨W1, hW1⟩ : ∃ W1, W1 = W0.setRow w.heap.size (ovl ROW (i * 7) news).toArray := ⟨_, rfl⟩
  obtain ⟨W2, hW2⟩ : ∃ W2, W2 = W1.drew.setRow w.heap.size (ovl (ovl ROW (i * 7) news) ((i + 1) * 7) (xs.drop (i * 7))).toArray := ⟨_, rfl⟩
  have hdl : (xs.drop (i * 7)).length = (n - i) * 7 := by rw [List.length_drop, hxl]; omega
  have hg0 : W0.heap[w.heap.size]? = some (.cells ROW.toArray 44) := by rw [hW0]; exact heap_alloc_new w.drew _
  have hold0 : ∀ k, k < w.heap.size → W0.heap[k]? = w.heap[k]? := fun k hk => by rw [hW0]; exact heap_alloc_old w.drew _ hk
  have hg1 : W1.heap[w.heap.size]? = some (.cells (ovl ROW (i * 7) news).toArray 44 (0, 0)) := by rw [hW1]; exact setRow_heap W0 w.heap.size _ _ _ _ hg0
  have hold1 : ∀ k, k < w.heap.size → W1.heap[k]? = w.heap[k]? := fun k hk => by rw [hW1]; exact (setRow_other W0 w.heap.size k _ (by omega)).trans (hold0 k hk)
  have hol : (ovl ROW (i * 7) news).length = G * 7 := by rw [ovl_len (by rw [hnl, hRl]; omega), hRl]
  have hcp1 : ∀ ty dc, (Builtin.copy_ #[24, 24] ty #[.slice (some ⟨w.heap.size, i * 7, none⟩) (n + 1 - i) dc, .slice (some ⟨vb, 0, none⟩) 1 1]).run Tryz.prog W0 = .ok (goInt (Nat.min 1 (n + 1 - i))) W1 := fun ty dc => by
    rw [hW1]
    have := run_copy_wide W0 24 24 ty 44 7 w.heap.size (i * 7) (n + 1 - i) dc ⟨vb, 0, none⟩ 1 1 _ 44 news Tryz.underlying24 hsz hg0 (by rw [hnl]; simp only [Nat.min_def]; split <;> omega) (fun j v hj => by
      rw [Addr.add_lit]
      have hv0 := (hold0 vb hvw).trans hvb
      simp [World.cell?, hv0]; simpa using hj) (by rw [hnl]; simp [hRl]; omega) h1
    simpa using this
  have hcp2 : ∀ ty dc sc, (Builtin.copy_ #[24, 24] ty #[.slice (some ⟨w.heap.size, (i + 1) * 7, none⟩) (n - i) dc, .slice (some ⟨g, i * 7, none⟩) (n - i) sc]).run Tryz.prog W1.drew = .ok (goInt (Nat.min (n - i) (n - i))) W2 := fun ty dc sc => by
    rw [hW2]
    have := run_copy_wide W1.drew 24 24 ty 44 7 w.heap.size ((i + 1) * 7) (n - i) dc ⟨g, i * 7, none⟩ (n - i) sc _ 44 (xs.drop (i * 7)) Tryz.underlying24 hsz hg1 (by rw [hdl]; simp only [Nat.min_def]; split <;> omega) (fun j v hj => by
      rw [Addr.add_lit]
      rw [List.getElem?_drop] at hj
      have hcc := hcell _ v hj
      exact (World.cell?_of_block (hold1 g hgw)).trans hcc) (by rw [hdl]; simp [hol]; omega) (fun v hv => hx1 v (List.mem_of_mem_drop hv))
    simpa using this
  have hpost : InsPost w base (.slice (some ⟨g, 0, none⟩) n c) n i xs news (.returned (.slice (some ⟨w.heap.size, 0, none⟩) (n + 1) G)) W2 := by
    have hg2 : W2.heap[w.heap.size]? = some (.cells (ovl (ovl ROW (i * 7) news) ((i + 1) * 7) (xs.drop (i * 7))).toArray 44 (0, 0)) := by rw [hW2]; exact setRow_heap W1.drew w.heap.size _ _ _ _ hg1
    refine ⟨_, _, rfl, ⟨insC_len hxl (by omega) hnl, .inr ⟨w.heap.size, G, _, rfl, hb, hg2, hGn, hGm, ?_, ?_⟩⟩, ?_, .inr ⟨_, rfl, Nat.le_refl _⟩⟩
    · rw [List.size_toArray, ovl_len (by rw [hdl, hol]; omega), hol]
    · have e1 : (ovl ROW (i * 7) news).take ((i + 1) * 7) = xs.take (i * 7) ++ news := by
        have e0 : ROW.take (i * 7) = xs.take (i * 7) := by rw [hROW]; exact List.take_left' (by rw [List.length_take]; omega)
        unfold ovl
        rw [e0, ← List.append_assoc]
        exact List.take_left' (by rw [List.length_append, List.length_take, hnl]; omega)
      show (ovl (ovl ROW (i * 7) news) ((i + 1) * 7) (xs.drop (i * 7))).take ((n + 1) * 7) = insC xs news i
      unfold insC
      rw [ovl, e1, ← List.append_assoc, List.append_assoc (xs.take (i * 7))]
      exact List.take_left' (by rw [List.length_append, List.length_append, List.length_take, hnl, hdl]; omega)
    · have z0 : w.heap.size ≤ W0.heap.size := by rw [hW0]; simp
      refine ⟨by rw [hW2, hW1, hW0]; rfl, by rw [hW2, hW1, hW0]; rfl, by rw [hW2, hW1, hW0]; rfl, ?_, fun k hk _ => ?_⟩
      · rw [hW2, setRow_size]
        show _ ≤ W1.heap.size
        rw [hW1, setRow_size]; exact z0
      · rw [hW2]
        exact (setRow_other W1.drew w.heap.size k _ (by omega)).trans (hold1 k hk)
  have HP := Lib.hid hpost
  have H0 := Lib.hid hrz
  have H1 := Lib.hid hcp1
  have H2 := Lib.hid hcp2
  have z1 : ((1 : Int) == 0) = false := by decide
  have z2 : ((i : Int) == (n : Int)) = false := by simp; omega
  have z3 : decide ((c : Int) < (n : Int) + 1) = true := decide_eq_true (by omega)
  have b1 : (0 : Int) ≤ (i : Int) := by omega
  have b2 : (i : Int) ≤ (n : Int) := by omega
  have b3 : (i : Int) ≤ (c : Int) := by omega
  have b5 : (i : Int) + 1 ≤ (n : Int) + 1 := by omega
  have b6 : (i : Int) ≤ (n : Int) + 1 := by omega
  have b9 : (0 : Int) ≤ (i : Int) + 1 := by omega
  have b7 : ((i : Int) + 1).toNat = i + 1 := by omega
  have b8 : ((n : Int) + 1).toNat = n + 1 := by omega
  have c1 : ¬ (c = i) := by omega
  have c2 : ¬ (G = i) := by omega
  have c3 : ¬ (G = i + 1) := by omega
  have c4 : i ≤ n := by omega
  have q1 : IntKind.i64.wrap ((i : Int) + 1) = (i : Int) + 1 := by rw [IntKind.wrap_i64]; omega
  have q2 : IntKind.i64.wrap ((n : Int) + 1) = (n : Int) + 1 := by rw [IntKind.wrap_i64]; omega
  have q3 : IntKind.i64.wrap ((n : Int) + 1 - (i : Int)) = (n : Int) + 1 - (i : Int) := by rw [IntKind.wrap_i64]; omega
  clear hpost hrz hcp1 hcp2 hcell hg1 hg0 hold0 hold1 hol hxl hdl hg hvb hW0 hW1 hW2 htk hcs hcm hx1 h1 hnl hbg hsz hold hROW hRl hzl hZ hZ7 hG hGn hGm hz0 hz1 hz2 hi0 hik hgw hvw hb
  go_enter Tryz.func82, Tryz.ntmps82
  go_wp2_with (at_builtin; refine wpl_append_eq rfl _ _ 24 3 rfl _ _ rfl rfl (H0.out _) ?_)
  have h1 := fun ty dc => H1.out ty dc
  simp only [h1]
  go_wp2_with fail
  go_region_law (refine step_copy_eq rfl _ _ 24 24 rfl _ _ (by simp [Act.eval, Act.put]; rfl) (by simp [Act.eval, Act.put]; rfl) (H2.out _ _ _) ?_)
  all_goals
    clear h1
    go_wp2_with fail
    try go_ret
    exact HP.out
end Go.Proofs.YtldhmfkojaekfaaGreatDoor
namespace Go.Proofs.YtldhmfkojaekfaaGreatDoor
open Go.RowKit Gx
set_option maxRecDepth 100000
set_option maxHeartbeats 4000000 in
theorem insert_end (w : World) (base n vb c : Nat) (vo : Option Addr) (xs news : List Value) (hb : base ≤ w.heap.size) (hown : w.ownsRow base 44 7 (.slice vo n c) n xs) (hn : n ≤ 1000000)
    (hnl : news.length = 7) (h1 : ∀ u ∈ news, u.oneCell' = true) (hvb : w.heap[vb]? = some (.cells news.toArray 44)) :
    Calls Tryz.prog 82 #[.slice vo n c, .int .i64 n, .slice (some ⟨vb, 0, none⟩) 1 1] w (InsPost w base (.slice vo n c) n n xs news) := by
  have hpost : ∀ v' w', w'.ownsRow base 44 7 v' (n + 1) (xs ++ news) → w.grownBy w' (Value.slice vo n c).ownBlock → Moved (.slice vo n c) v' w.heap.size → InsPost w base (.slice vo n c) n n xs news (.returned v') w' := by
    intro v' w' ho hg hm
    obtain ⟨vo', vc', rfl⟩ := own_form ho
    refine ⟨vo', vc', rfl, ?_, hg, hm⟩
    have hxl := hown.1
    unfold insC
    rw [List.take_of_length_le (by omega), List.drop_of_length_le (by omega), List.append_nil]
    exact ho
  have HP := Lib.hid hpost
  have HO := Lib.hid hown
  have HV : Hid (∀ a, some (⟨vb, 0, none⟩ : Addr) = some a → ∀ (j : Nat) (u : Value), news[j]? = some u → w.cell? (a.add j) = some u) := Lib.hid (fun a e j u hj => by
    cases e
    rw [Addr.add_lit]
    simp [World.cell?, hvb]; simpa using hj)
  have hcap : c ≤ 9223372036854775807 ∧ n ≤ c := by
    rcases hown.2 with ⟨h, h0⟩ | ⟨g, cap, cur, h, -, -, h2, h3, -⟩
    · cases h; omega
    · cases h; unfold maxLen at h3; omega
  have z1 : ((1 : Int) == 0) = false := by decide
  have z2 : ((n : Int) == (n : Int)) = true := by simp
  have b1 : (0 : Int) ≤ (n : Int) := by omega
  have b2 : (n : Int) ≤ (n : Int) := by omega
  have b3 : (n : Int) ≤ (c : Int) := by omega
  obtain ⟨hc1, hc2⟩ := hcap
  have HN := Lib.hid hnl
  have HB := Lib.hid hb
  have HH1 := Lib.hid h1
  clear hpost hown hvb hnl hb h1
  obtain ⟨vx, hvx⟩ : ∃ vx, vx = Value.slice vo n c := ⟨_, rfl⟩
  go_enter Tryz.func82, Tryz.ntmps82
  cases vo with
  | none =>
    go_wp2_with (at_builtin; refine Gx.wpList_append_all w rfl _ _ 24 rfl base 44 _ 7 104 Tryz.underlying24 Tryz.info_ent rfl (by decide) (.slice none n c) n xs (some ⟨vb, 0, none⟩) 1 1 news rfl rfl HO.out (by rw [HN.out]) (fun e => by simp at e) HV.out HH1.out (by omega) (by omega) HB.out ?_; intro v' w' ho' hg' hm')
    all_goals
      try go_ret
      exact HP.out _ _ ho' hg' hm'
  | some a =>
    go_wp2_with (at_builtin; refine Gx.wpList_append_all w rfl _ _ 24 rfl base 44 _ 7 104 Tryz.underlying24 Tryz.info_ent rfl (by decide) (.slice (some a) n c) n xs (some ⟨vb, 0, none⟩) 1 1 news rfl rfl HO.out (by rw [HN.out]) (fun e => by simp at e) HV.out HH1.out (by omega) (by omega) HB.out ?_; intro v' w' ho' hg' hm')
    all_goals
      try go_ret
      exact HP.out _ _ ho' hg' hm'
theorem insert_any (w : World) (base n i vb c : Nat) (vo : Option Addr) (xs news : List Value) (hb : base ≤ w.heap.size) (hown : w.ownsRow base 44 7 (.slice vo n c) n xs) (hi : i ≤ n) (hn : n ≤ 1000000)
    (hnl : news.length = 7) (h1 : ∀ u ∈ news, u.oneCell' = true) (hx1 : ∀ u ∈ xs, u.oneCell' = true) (hvb : w.heap[vb]? = some (.cells news.toArray 44)) (hne : (Value.slice vo n c).ownBlock ≠ some vb) :
    Calls Tryz.prog 82 #[.slice vo n c, .int .i64 i, .slice (some ⟨vb, 0, none⟩) 1 1] w (InsPost w base (.slice vo n c) n i xs news) := by
  by_cases hin : i = n
  · subst hin
    exact insert_end w base i vb c vo xs news hb hown hn hnl h1 hvb
  · rcases hown.2 with ⟨-, h0⟩ | ⟨g, cap, cur, h, hbg, hg, h2, h3, h4, h5⟩
    · omega
    · cases h
      by_cases hroom : n + 1 ≤ c
      · exact insert_room w base g n c i vb cur xs news hbg hg h4 h3 h5 (by omega) hn hroom hnl h1 hx1 hvb (fun e => hne (by rw [e]; rfl))
      · exact insert_grow w base g n c i vb cur xs news hb hbg hg h4 h2 h3 h5 (by omega) hn (by omega) hnl h1 hx1 hvb
/-- an entry is put amid the others -/
theorem Acc.ins {w w' : World} {vb i : Nat} {v v' : Value} {ps : List (ByteArray × Loc)} {p : ByteArray × Loc} (h : Acc w vb true 44 v ps) (hp : VAt w (fun b => vb < b ∧ v.ownBlock ≠ some b) p.2) (hk : p.1.size ≤ 140737488351232)
    (hi : i ≤ ps.length) (ho : w'.ownsRow (vb + 1) 44 7 v' (ps.length + 1) (insC (ps.flatMap (cellsT true)) (cellsT true p) i)) (hg : w.grownBy w' v.ownBlock) (hm : Moved v v' w.heap.size) : Acc w' vb true 44 v' (ps.take i ++ p :: ps.drop i) := by
  have hfl : ∀ (l : List (ByteArray × Loc)) (k : Nat), k ≤ l.length → (l.flatMap (cellsT true)).take (k * 7) = (l.take k).flatMap (cellsT true) ∧ (l.flatMap (cellsT true)).drop (k * 7) = (l.drop k).flatMap (cellsT true) := by
    intro l k hk
    have e : l.flatMap (cellsT true) = (l.take k).flatMap (cellsT true) ++ (l.drop k).flatMap (cellsT true) := by rw [← List.flatMap_append, List.take_append_drop]
    have hl : ∀ m : List (ByteArray × Loc), (m.flatMap (cellsT true)).length = m.length * 7 := by
      intro m
      induction m with
      | nil => rfl
      | cons a m ih => rw [List.flatMap_cons, List.length_append, ih, cellsT_len, List.length_cons]; simp [st]; omega
    have h2 : ((l.take k).flatMap (cellsT true)).length = k * 7 := by rw [hl, List.length_take, Nat.min_eq_left hk]
    rw [e]
    exact ⟨List.take_left' h2, List.drop_left' h2⟩
  have hmem : ∀ x, x ∈ ps.take i ++ p :: ps.drop i → x = p ∨ x ∈ ps := fun x hx => by
    rcases List.mem_append.1 hx with hx | hx
    · exact .inr (List.mem_of_mem_take hx)
    · rcases List.mem_cons.1 hx with hx | hx
      · exact .inl hx
      · exact .inr (List.mem_of_mem_drop hx)
  refine ⟨?_, fun x hx => ?_, fun x hx => ?_⟩
  · have hl : (ps.take i ++ p :: ps.drop i).length = ps.length + 1 := by rw [List.length_append, List.length_cons, List.length_take, List.length_drop]; omega
    rw [hl, List.flatMap_append, List.flatMap_cons]
    unfold insC at ho
    rw [(hfl ps i hi).1, (hfl ps i hi).2] at ho
    exact ho
  · have hx' : VAt w (fun b => vb < b ∧ v.ownBlock ≠ some b) x.2 := by
      rcases hmem x hx with rfl | hx
      · exact hp
      · exact h.at_ x hx
    refine hx'.through hg.size (fun b hb hl => hg.block b hl (fun e => hb.2 e.symm)) (fun b hb hl => ⟨hb.1, fun e => ?_⟩)
    rcases hm with hm | ⟨g, hm, hgl⟩
    · exact hb.2 (by rw [← hm]; exact e)
    · rw [hm] at e; have : g = b := Option.some.inj e; omega
  · rcases hmem x hx with rfl | hx
    · exact hk
    · exact h.key x hx
end Go.Proofs.YtldhmfkojaekfaaGreatDoor
namespace Go.Proofs.YtldhmfkojaekfaaGreatDoor
open Go.RowKit Gx
set_option maxRecDepth 100000
def InsAcc (w : World) (vb m : Nat) (ps : List (ByteArray × Loc)) (e : Ending) (w' : World) : Prop := ∃ ao c, e = .returned (.slice ao (m + 1) c) ∧ Acc w' vb true 44 (.slice ao (m + 1) c) ps ∧ Below (vb + 1) w w'
theorem put_ins (w : World) (vb m i c : Nat) (vo : Option Addr) (ps : List (ByteArray × Loc)) (s : ByteArray) (p : Loc) (ha : Acc w vb true 44 (.slice vo m c) ps) (hps : ps.length = m) (hp : VAt w (fun b => vb < b ∧ (Value.slice vo m c).ownBlock ≠ some b) p) (hk : s.size ≤ 140737488351232) (hi : i ≤ m) (hm : m ≤ 1000000) (hv : vb < w.heap.size) :
    Calls Tryz.prog 82 #[.slice vo m c, .int .i64 i, .slice (some ⟨w.heap.size, 0, none⟩) 1 1] (w.alloc (.cells #[.string s, .int .i64 p.v.k, .int .i64 p.v.n, .int .u64 p.v.f, .string p.v.s, .slice p.ad p.v.l.length p.cap, .slice p.bd p.v.e.length p.dap] 44))
      (InsAcc (w.alloc (.cells #[.string s, .int .i64 p.v.k, .int .i64 p.v.n, .int .u64 p.v.f, .string p.v.s, .slice p.ad p.v.l.length p.cap, .slice p.bd p.v.e.length p.dap] 44)) vb m (ps.take i ++ (s, p) :: ps.drop i)) := by
  have hba := (Below.refl w.heap.size w).alloc (Nat.le_refl _) (.cells #[.string s, .int .i64 p.v.k, .int .i64 p.v.n, .int .u64 p.v.f, .string p.v.s, .slice p.ad p.v.l.length p.cap, .slice p.bd p.v.e.length p.dap] 44)
  have ha2 := ha.grow (grown_none hba) (fun _ e => absurd e (by simp))
  have hp2 := hp.keep hba
  have hnew := heap_alloc_new w (.cells #[.string s, .int .i64 p.v.k, .int .i64 p.v.n, .int .u64 p.v.f, .string p.v.s, .slice p.ad p.v.l.length p.cap, .slice p.bd p.v.e.length p.dap] 44)
  have hsz := hba.size
  generalize hw : w.alloc _ = w1 at *
  have hone : ∀ u ∈ ps.flatMap (cellsT true), u.oneCell' = true := fun u hu => by
    obtain ⟨x, -, hx⟩ := List.mem_flatMap.1 hu
    exact cellsT_one true x u hx
  refine (insert_any w1 (vb + 1) m i w.heap.size c vo (ps.flatMap (cellsT true)) (cellsT true (s, p)) (by omega) (by have := ha2.own; rw [hps] at this; exact this) hi hm rfl (cellsT_one true (s, p)) hone hnew (fun e => by have := (ha.own.lt _ e).2; omega)).mono ?_
  rintro e w' ⟨vo', vc', rfl, ho, hg, hmv⟩
  refine ⟨vo', vc', rfl, ha2.ins hp2 hk (by omega) (by rw [hps]; exact ho) hg hmv, (Below.refl _ _).grown hg (by omega) (fun b e => by have := ha2.above b e; omega)⟩

def PutPost (w : World) (xs : List (ByteArray × V)) (e : Ending) (w' : World) : Prop :=
  ∃ vo vc m, e = .returned (.slice vo m vc) ∧ xs.length = m ∧ RowAt w' (fun b => w.heap.size ≤ b) true xs (.slice vo m vc) ∧ Below w.heap.size w w'
theorem drop_le (s : ByteArray) (l : List (ByteArray × V)) : (dropL l s).length ≤ l.length := List.length_filter_le _ _
set_option maxHeartbeats 8000000 in
theorem put_any (bd : Option Addr) (dap n : Nat) (l : List (ByteArray × V)) (s : ByteArray) (q : Loc) (w : World) (h : RowAt w (fun _ => True) true l (.slice bd n dap)) (hn : l.length = n) (hl : n ≤ 900000) (hq : VAt w (fun _ => True) q) (hk : s.size ≤ 140737488351232) :
    Calls Tryz.prog 48 #[.slice bd n dap, .string s, q.val] w (PutPost w (putL l s q.v)) := by
  unfold Loc.val
  have hb0 := ((Below.refl w.heap.size w).alloc (Nat.le_refl _) (.cells #[.string s] 9)).alloc (by simp) (.cells #[.int .i64 q.v.k, .int .i64 q.v.n, .int .u64 q.v.f, .string q.v.s, .slice q.ad q.v.l.length q.cap, .slice q.bd q.v.e.length q.dap] 26)
  have hs0 : ((w.alloc (.cells #[.string s] 9)).alloc (.cells #[.int .i64 q.v.k, .int .i64 q.v.n, .int .u64 q.v.f, .string q.v.s, .slice q.ad q.v.l.length q.cap, .slice q.bd q.v.e.length q.dap] 26)).heap[w.heap.size]? = some (.cells #[.string s] 9) := (heap_alloc_old _ _ (by simp)).trans (heap_alloc_new w _)
  have hv0 := heap_alloc_new (w.alloc (.cells #[.string s] 9)) (.cells #[.int .i64 q.v.k, .int .i64 q.v.n, .int .u64 q.v.f, .string q.v.s, .slice q.ad q.v.l.length q.cap, .slice q.bd q.v.e.length q.dap] 26)
  have hsz : ((w.alloc (.cells #[.string s] 9)).alloc (.cells #[.int .i64 q.v.k, .int .i64 q.v.n, .int .u64 q.v.f, .string q.v.s, .slice q.ad q.v.l.length q.cap, .slice q.bd q.v.e.length q.dap] 26)).heap.size = w.heap.size + 1 + 1 := by simp
  have hrow0 := h.keep hb0
  have hq0 := hq.keep hb0
  rw [World.size_alloc] at hv0
  clear h hq
  go_enter Tryz.func48, Tryz.ntmps48
  go_upto_region 1 with fail
  generalize hw2 : World.alloc (World.alloc w _) _ = w2 at hb0 hs0 hv0 hsz hrow0 hq0 ⊢
  clear hw2
  have hcs : w2.cell? ⟨w.heap.size, 0, none⟩ = some (.string s) := by simp [World.cell?, hs0]
  have HV0 := Lib.hid hv0
  have HS0 := Lib.hid hs0
  have HQ0 := Lib.hid hq0
  have HB0 := Lib.hid hb0
  have HD := Lib.hid (drop_any bd dap n l s w2 (w.heap.size + 1) hsz hrow0 hn (by omega))
  have HSZ := Lib.hid hsz
  have hdl := drop_le s l
  rw [hn] at hdl
  clear hv0 hs0 hq0 hb0 hrow0 hsz hn
  go_wp2_with fail
  (with_reducible refine HD.out.mono ?_)
  rintro e w3 ⟨vo, vc, m, ps, rfl, hm, ha, hps, hb3⟩
  have hml : (dropL l s).length = m := by rw [← hps, List.length_map, hm]
  have hgi := gidx_le s (dropL l s)
  have hcs3 := (hb3.cell (p := ⟨w.heap.size, 0, none⟩) (by have := HSZ.out; show w.heap.size < _; omega)).trans hcs
  have hrow : RowAt w3 (fun _ => True) true (dropL l s) (.slice vo (dropL l s).length vc) := by
    rw [hml]
    exact (ha.row (by rw [hm]; simp [st]; omega) hps.symm).weak (fun _ _ _ => trivial)
  have hix := indexPut_any vo vc (dropL l s) w.heap.size s w3 hrow hcs3
  rw [hml] at hix hgi hdl
  have HPL : Hid (putL l s q.v = (dropL l s).take (gidx s (dropL l s)) ++ (s, q.v) :: (dropL l s).drop (gidx s (dropL l s))) := Lib.hid rfl
  obtain ⟨I, hI⟩ : ∃ I, gidx s (dropL l s) = I := ⟨_, rfl⟩
  rw [hI] at hix hgi HPL
  have HIX := Lib.hid hix
  have HPS := Lib.hid hps
  have HA3 := Lib.hid ha
  have HB3 := Lib.hid hb3
  have HM := Lib.hid hm
  clear hix hps ha hb3 hm hml hrow hI HD hcs
  go_wp2_with fail
  (with_reducible refine HIX.out.mono ?_)
  rintro e w4 ⟨rfl, hb4⟩
  have hs3 := HSZ.out
  have hsb3 := HB3.out.size
  have hsb4 := hb4.size
  have hb34 := HB3.out.trans (hb4.mono hsb3)
  have hcs4 := (hb4.cell (p := ⟨w.heap.size, 0, none⟩) (by show w.heap.size < _; omega)).trans hcs3
  have hv4 := (hb34.block (w.heap.size + 1) (by omega)).trans HV0.out
  obtain ⟨e0, e1, e2, e3, e4, e5, -⟩ := six_cells hv4
  have HAd : Hid (Acc w4.drew (w.heap.size + 1) true 44 (.slice vo m vc) ps) := Lib.hid ((HA3.out.grow (grown_none hb4) (fun _ e => absurd e (by simp))).grow (r := none) ⟨rfl, rfl, rfl, Nat.le_refl _, fun _ _ _ => rfl⟩ (fun _ e => absurd e (by simp)))
  have HBd : Hid (Below w.heap.size w w4.drew) := Lib.hid ((HB0.out.trans (hb34.mono HB0.out.size)).trans (Gx.drewN_below w4 1 _))
  have hih := own_any' q w4.drew ((HQ0.out.keep hb34).keep (Gx.drewN_below w4 1 _))
  simp only [Loc.val] at hih
  have HCd := Lib.hid hih
  have HE0 : Hid (w4.drew.cell? ⟨w.heap.size, 0, none⟩ = some (.string s)) := Lib.hid hcs4
  have HXL : Hid (w.heap.size < w4.drew.heap.size) := Lib.hid (show w.heap.size < w4.heap.size by omega)
  have HVL : Hid (w.heap.size + 1 < w4.drew.heap.size) := Lib.hid (show w.heap.size + 1 < w4.heap.size by omega)
  clear hb4 hb34 hih hcs3 HV0 HS0 HQ0 HB0 HB3 HA3 HIX hs3 hsb3 hsb4 hv4
  have hfin : ∀ (p : Loc) ao c w6, p.v = q.v → Acc w6 (w.heap.size + 1) true 44 (.slice ao (m + 1) c) (ps.take I ++ (s, p) :: ps.drop I) → Below w.heap.size w w6 → PutPost w (putL l s q.v) (.returned (.slice ao (m + 1) c)) w6 := by
    intro p ao c w6 hpv ha hb
    have hlen : (ps.take I ++ (s, p) :: ps.drop I).length = m + 1 := by rw [List.length_append, List.length_cons, List.length_take, List.length_drop, HM.out]; omega
    have hmap : putL l s q.v = (ps.take I ++ (s, p) :: ps.drop I).map fun p => (p.1, p.2.v) := by
      rw [HPL.out, ← HPS.out, List.map_append, List.map_cons, List.map_take, List.map_drop, hpv]
    refine ⟨ao, c, m + 1, rfl, by rw [hmap, List.length_map, hlen], ?_, hb⟩
    exact (ha.row (by rw [hlen]; simp [st]; omega) hmap).weak (fun b hb _ => by omega)
  have HFIN := Lib.hid hfin
  clear hfin
  by_cases hIm : I < m
  · rw [if_pos hIm]
    have t1 : decide ((I : Int) < 0) = false := decide_eq_false (by omega)
    go_wp2_with fail
    go_region_law (first
      | (go_simp; (with_reducible refine HCd.out.mono ?_); rintro e w5 ⟨p, rfl, hpv, hp, hb5⟩; have k5e := (hb5.cell (p := ⟨w.heap.size, 0, none⟩) HXL.out).trans HE0.out; have HV5 := Lib.hid (Nat.lt_of_lt_of_le HVL.out hb5.size); have HB5 := Lib.hid (HBd.out.trans (hb5.mono HBd.out.size)); have HPV := Lib.hid hpv; have HIN := Lib.hid (put_ins w5 (w.heap.size + 1) m I vc vo ps s p (HAd.out.grow (grown_none hb5) (fun _ e => absurd e (by simp))) HM.out (HAd.out.fresh HVL.out hp) hk hgi (by omega) HV5.out); clear hp hb5 hpv; simp only [Loc.val])
      | (go_simp; (with_reducible refine HIN.out.mono ?_); rintro e w6 ⟨ao, c, rfl, ha6, hb6⟩; have HR := Lib.hid (HFIN.out p ao c w6 HPV.out ha6 ((HB5.out.alloc HB5.out.size _).trans (hb6.mono (by omega)))); clear ha6 hb6))
    all_goals
      go_wp2_with fail
      try go_ret
      exact HR.out
  · rw [if_neg hIm]
    have t1 : decide ((-1 : Int) < 0) = true := by decide
    obtain rfl : I = m := by omega
    clear hIm
    go_wp2_with fail
    go_region_law (first
      | (go_simp; (with_reducible refine HCd.out.mono ?_); rintro e w5 ⟨p, rfl, hpv, hp, hb5⟩; have k5e := (hb5.cell (p := ⟨w.heap.size, 0, none⟩) HXL.out).trans HE0.out; have HV5 := Lib.hid (Nat.lt_of_lt_of_le HVL.out hb5.size); have HB5 := Lib.hid (HBd.out.trans (hb5.mono HBd.out.size)); have HPV := Lib.hid hpv; have HIN := Lib.hid (put_ins w5 (w.heap.size + 1) I I vc vo ps s p (HAd.out.grow (grown_none hb5) (fun _ e => absurd e (by simp))) HM.out (HAd.out.fresh HVL.out hp) hk hgi (by omega) HV5.out); clear hp hb5 hpv; simp only [Loc.val])
      | (go_simp; (with_reducible refine HIN.out.mono ?_); rintro e w6 ⟨ao, c, rfl, ha6, hb6⟩; have HR := Lib.hid (HFIN.out p ao c w6 HPV.out ha6 ((HB5.out.alloc HB5.out.size _).trans (hb6.mono (by omega)))); clear ha6 hb6))
    all_goals
      go_wp2_with fail
      try go_ret
      exact HR.out
end Go.Proofs.YtldhmfkojaekfaaGreatDoor
