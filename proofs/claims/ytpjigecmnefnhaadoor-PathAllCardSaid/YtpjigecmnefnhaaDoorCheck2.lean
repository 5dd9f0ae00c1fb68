/-
  The contract of val.check where there is room. Conditions: Go's two tables of utf8 lie in the world.
-/
import Derived.Test.YtpjigecmnefnhaaDoorCheck
namespace Go.Proofs.YtpjigecmnefnhaaDoor
open Go.RowKit Go.Shelf Gx
attribute [local go_sem] Oper.semAt_some
set_option maxRecDepth 100000

def vsOf {w : World} {n₀ M : Nat} (pre : List (LocAt w n₀ M)) : List V := pre.map fun x => x.1.v
theorem vsOf_snoc {w : World} {n₀ M : Nat} (pre : List (LocAt w n₀ M)) (x : LocAt w n₀ M) : vsOf (pre ++ [x]) = vsOf pre ++ [x.1.v] := by simp [vsOf]
/-- what check says where there is room -/
noncomputable def chkM (f : V → Nat → Nat × Nat) (v : V) (m : Nat) : Nat × Nat := if ownV v ≠ 0 then (ownV v, m) else if keyE none v.e ≠ 0 then (keyE none v.e, m) else chkAll f v.parts m

set_option maxHeartbeats 4000000 in
theorem check_more (q : Loc) (a : Int) (m m1 M : Nat) (w : World) (hM : Boxed w M 3 (.int .i64 m)) (hm1 : m + 1 = m1) (hm2 : m1 ≤ 2000) (ha : 0 ≤ a) (ha2 : a < 20) (hT : Tabs w) (hv : VAt w (Bw w.heap.size M) q)
    (f : V → Nat → Nat × Nat) (hf : ∀ x m, m ≤ 2000 → (f x m).2 ≤ 2001 ∧ ((f x m).1 = 0 → (f x m).2 ≤ 2000))
    (ih : ∀ (p : Loc) (m M : Nat) (w : World), Boxed w M 3 (.int .i64 m) → m ≤ 2000 → Tabs w → VAt w (Bw w.heap.size M) p →
      Calls Tryd.prog 18 #[p.val, .int .i64 (a + 1), .pointer (some ⟨M, 0, none⟩)] w (ChkPost (f p.v m) M w)) (r : Nat × Nat) (hr : chkM f q.v m1 = r) :
    Calls Tryd.prog 18 #[q.val, .int .i64 a, .pointer (some ⟨M, 0, none⟩)] w (ChkPost r M w) := by
  obtain ⟨v, ad, cap, bd, dap⟩ := q
  simp only at hv hr
  have HE := Lib.hid (CE.start hM ⟨v, ad, cap, bd, dap⟩ a)
  have HMB := Lib.hid hM
  have HM3 := Lib.hid hm2
  have HR := Lib.hid hr
  have HF := Lib.hid hf
  have IH := Lib.hid ih
  have HV := Lib.hid hv
  have HT := Lib.hid hT
  have HM1 := Lib.hid hm1
  have hne := hv.e.ebound
  have hnl := hv.l.lbound
  simp only at hne hnl
  have hwf := Lib.hid hv.wf
  clear hr hf ih hv hT hm1
  unfold Loc.val
  refine callsIn_wide.1 (callsIn_of_wp_marks (n := 9) Tryd.func18 rfl trivial ?_)
  simp only [Tryd.ntmps18, List.size_toArray, List.length_cons, List.length_nil, Nat.reduceAdd, Nat.reduceSub, Array.replicate_succ, Array.replicate_zero, List.push_toArray, List.append_toArray, List.nil_append, List.cons_append]
  refine wpIn_wide.2 ?_
  clear hM
  go_upto_region 1 with fail
  generalize hw4 : World.alloc _ _ = w4 at HE ⊢
  clear hw4
  obtain ⟨ca, cp, cr, cm, fm, fr, lm, lr⟩ := HE.out.cells
  have hm0 : m ≤ 2000 := by have := HM1.out; omega
  go_upto_region 2 with fail
  have HE5 := Lib.hid HE.out.up
  generalize hw5 : World.setCell _ _ _ = w5 at HE5 ⊢
  clear hw5 HE ca cp cr cm fm fr lm lr
  rw [HM1.out] at HE5
  obtain ⟨ca, cp, cr, cm, fm, fr, lm, lr⟩ := HE5.out.cells
  obtain ⟨c0, c1, c2, c3, c4, c5⟩ := HE5.out.vc
  simp only at c0 c1 c2 c3 c4 c5
  clear hm0
  have t1 : decide ((2000 : Int) < (m1 : Int)) = false := decide_eq_false (by omega)
  go_wp2_with fail
  have hT5 : Tabs w5 := HT.out.but HMB.out HE5.out.g
  obtain ⟨o, ho⟩ : ∃ o, ownV v = o := ⟨_, rfl⟩
  have hown := own_all v.k v.n v.f v.s ad bd v.l.length v.e.length cap dap w5 a ha ha2 hwf.out.f0 hwf.out.f1 (by omega) (by omega) (by have := hwf.out.s1; omega) hT5
  rw [show ownE v.k v.n v.f v.s v.l.length v.e.length = o from ho] at hown
  have HO := Lib.hid ho
  clear ho hT5
  refine hown.mono ?_
  clear hown
  rintro e w6 ⟨rfl, hb6⟩
  have HE6 := Lib.hid (HE5.out.below hb6)
  clear HE5 hb6 ca cp cr cm fm fr lm lr c0 c1 c2 c3 c4 c5 t1
  obtain ⟨ca, cp, cr, cm, fm, fr, lm, lr⟩ := HE6.out.cells
  obtain ⟨c0, c1, c2, c3, c4, c5⟩ := HE6.out.vc
  simp only at c0 c1 c2 c3 c4 c5
  by_cases ho0 : o = 0
  · subst ho0
    clear c0 c1 c2 c3 c4
    have hchk : chkM f v m1 = if keyE none v.e ≠ 0 then (keyE none v.e, m1) else chkAll f v.parts m1 := by unfold chkM; rw [HO.out, if_neg (fun h => h rfl)]
    rw [HR.out] at hchk
    have HR2 := Lib.hid hchk
    clear hchk hm2 hnl
    obtain ⟨ne, hne'⟩ : ∃ ne, v.e.length = ne := ⟨_, rfl⟩
    rw [hne'] at c5 hne
    have HNE := Lib.hid hne'
    clear hne'
    go_wp2_with fail
    go_loopw [30] (fun v30 wr => ∃ k : Nat, k ≤ ne ∧ v30 = .int .i64 k ∧ Hid (CE w ⟨v, ad, cap, bd, dap⟩ a M m1 0 wr) ∧ Hid (keyE (prevK v.e k) (v.e.drop k) = keyE none v.e)) (fun v30 _ => ne - (intOf v30).toNat)
    case atStart => exact ⟨0, Nat.zero_le _, rfl, HE6, rfl⟩
    case round =>
      obtain ⟨k, hk, rfl, HEr, HK⟩ := hrel
      clear HE6 ca cp cr cm fm fr lm lr c5
      by_cases hlt : k < ne
      · obtain ⟨x, hx⟩ : ∃ x, v.e[k]? = some x := ⟨_, List.getElem?_eq_getElem (by rw [HNE.out]; exact hlt)⟩
        obtain ⟨b, off, hbd, hBb, hbl, hcs⟩ := HV.out.e.entry (by show 0 < v.e.length; rw [HNE.out]; omega)
        simp only at hbd
        subst hbd
        obtain ⟨hxs, gk, p, hp, -, gs⟩ := hcs k x hx
        have HCS := Lib.hid hcs
        have hbk : wr.heap[b]? = w.heap[b]? := HEr.out.g.block b hbl (fun e => hBb.2 (Option.some.inj e))
        have gk' : wr.cell? ⟨b, off + k * 7, none⟩ = _ := (World.cell?_of_block hbk).trans gk
        obtain ⟨g0, g1, g2, g3, g4, g5⟩ := (gs.through hbk).seven
        have HX := Lib.hid hx
        have hxs2 : x.1.size ≤ 140737488351232 := hxs
        have HEX := Lib.hid (HEr.out.below ((Below.refl _ wr).alloc (Nat.le_refl _) (.cells #[.string x.1, .int .i64 p.v.k, .int .i64 p.v.n, .int .u64 p.v.f, .string p.v.s, .slice p.ad p.v.l.length p.cap, .slice p.bd p.v.e.length p.dap] 50)))
        have hkey : (wr.alloc (.cells #[.string x.1, .int .i64 p.v.k, .int .i64 p.v.n, .int .u64 p.v.f, .string p.v.s, .slice p.ad p.v.l.length p.cap, .slice p.bd p.v.e.length p.dap] 50)).cell? ⟨wr.heap.size, 0, none⟩ = some (.string x.1) := by
          simp
        clear gk gs hp hcs hx hbk
        go_upto_region 10 with fail
        generalize hw9 : World.alloc wr _ = w9 at HEX hkey ⊢
        clear hw9 gk' g0 g1 g2 g3 g4 g5
        obtain ⟨ca, cp, cr, cm, fm, fr, lm, lr⟩ := HEX.out.cells
        by_cases hbig : 100 < x.1.size
        · have t3 : decide ((100 : Int) < (x.1.size : Int)) = true := decide_eq_true (by omega)
          have hke : keyE none v.e = 2 := by rw [← HK.out, keyE_drop HX.out, if_pos hbig]
          have hrr : r = (2, m1) := by rw [HR2.out, hke]; rfl
          subst hrr
          clear hke hbig
          go_wp2_with fail
          exact ⟨_, by simp [results, Tryd.results18, go_sem, (HEX.out.res 2).cells.2.2.1], rfl, (HEX.out.res 2).m, (HEX.out.res 2).g⟩
        · have t3 : decide ((100 : Int) < (x.1.size : Int)) = false := decide_eq_false (by omega)
          go_wp2_with fail
          refine (bad_any x.1 _ (HT.out.but HMB.out HEX.out.g) (by omega)).mono ?_
          rintro e w10 ⟨bi, rfl, hbi, hb10⟩
          have HE10 := Lib.hid (HEX.out.below hb10)
          have HB10 := Lib.hid hb10
          clear ca cp cr cm fm fr lm lr hb10
          obtain ⟨ca, cp, cr, cm, fm, fr, lm, lr⟩ := HE10.out.cells
          by_cases hok : okText x.1.data.toList
          · have t4 : decide (0 ≤ bi) = false := decide_eq_false (by have := hbi.2 hok; omega)
            clear hbi
            have hkey10 : w10.cell? ⟨wr.heap.size, 0, none⟩ = some (.string x.1) := (HB10.out.cell (p := ⟨wr.heap.size, 0, none⟩) (World.block_lt_of_cell? _ _ hkey)).trans hkey
            have hke0 := HK.out
            rw [keyE_drop HX.out, if_neg hbig, if_neg (fun h => h hok)] at hke0
            clear hkey hxs hxs2 hbig hok
            by_cases hk0 : k = 0
            · have g1 : decide ((0 : Int) < (k : Int)) = false := decide_eq_false (by omega)
              have g2 : decide (0 < k) = false := decide_eq_false (by omega)
              have hkb : keyBad (prevK v.e k) x.1 = false := by rw [hk0]; rfl
              rw [if_neg (by rw [hkb]; decide)] at hke0
              have HK2 := Lib.hid hke0
              clear hke0 hkb hk0
              go_wp2_with fail
              go_quiet (fail)
              have HE11 := Lib.hid (HE10.out.below (Gx.drewN_below w10 nq _))
              clear HE10
              go_wp2_with fail
              go_roundw
              case rel => exact ⟨k + 1, by omega, by go_num, HE11, HK2⟩
              case measure => simp [intOf]; omega
            · obtain ⟨j, hj⟩ : ∃ j : Nat, (k : Int) - 1 = (j : Int) := ⟨k - 1, by omega⟩
              have hkj : k = j + 1 := by omega
              have g1 : decide ((0 : Int) < (k : Int)) = true := decide_eq_true (by omega)
              have g2 : decide (0 < k) = true := decide_eq_true (by omega)
              obtain ⟨y, hy⟩ : ∃ y, v.e[j]? = some y := ⟨_, List.getElem?_eq_getElem (by rw [HNE.out]; omega)⟩
              have gy := (HCS.out j y hy).2.1
              have hbk : w10.heap[b]? = w.heap[b]? := HE10.out.g.block b hbl (fun e => hBb.2 (Option.some.inj e))
              have gy' : w10.cell? ⟨b, off + j * 7, none⟩ = some (.string y.1) := (World.cell?_of_block hbk).trans gy
              have c5 : w10.cell? ⟨w.heap.size, 5, none⟩ = some (.slice (some ⟨b, off, none⟩) ne dap) := by have := HE10.out.vc.c5; simp only [HNE.out] at this; exact this
              have hpk : prevK v.e k = some y.1 := by unfold prevK; rw [if_neg hk0, hkj, Nat.add_sub_cancel, hy]; rfl
              have hkb : keyBad (prevK v.e k) x.1 = !(Op.bytesLess y.1.toList x.1.toList) := by rw [hpk]; rfl
              have q1 : (0 : Int) ≤ (j : Int) := by omega
              have q2 : (j : Int) < (ne : Int) := by omega
              have q3 : (j : Int).toNat = j := rfl
              have q4 : j < ne := by omega
              have HKJ := Lib.hid hkj
              clear hy gy hbk hpk hkj hk0
              cases hbl2 : Op.bytesLess y.1.toList x.1.toList with
              | true =>
                rw [hkb, hbl2, if_neg (by decide)] at hke0
                have HK2 := Lib.hid hke0
                clear hke0 hkb
                go_wp2_with fail
                go_quiet (fail)
                have HE11 := Lib.hid (HE10.out.below (Gx.drewN_below w10 nq _))
                clear HE10
                go_wp2_with fail
                go_roundw
                case rel => exact ⟨k + 1, by omega, by go_num, HE11, HK2⟩
                case measure => simp [intOf]; omega
              | false =>
                have hke : keyE none v.e = 14 := by rw [← hke0, hkb, hbl2, if_pos (by decide)]
                have hrr : r = (14, m1) := by rw [HR2.out, hke]; rfl
                subst hrr
                clear hke hke0 hkb
                go_wp2_with fail
                go_quiet (fail)
                have HE11 := Lib.hid (HE10.out.below (Gx.drewN_below w10 nq _))
                clear HE10 ca cp cr cm fm fr lm lr
                obtain ⟨ca, cp, cr, cm, fm, fr, lm, lr⟩ := HE11.out.cells
                go_wp2_with fail
                exact ⟨_, by simp [results, Tryd.results18, go_sem, (HE11.out.res 14).cells.2.2.1], rfl, (HE11.out.res 14).m, (HE11.out.res 14).g⟩
          · have t4 : decide (0 ≤ bi) = true := decide_eq_true (Int.not_lt.1 (fun h => hok (hbi.1 h)))
            have hke : keyE none v.e = 3 := by rw [← HK.out, keyE_drop HX.out, if_neg hbig, if_pos hok]
            have hrr : r = (3, m1) := by rw [HR2.out, hke]; rfl
            subst hrr
            clear hke hbig hbi hok
            go_wp2_with fail
            exact ⟨_, by simp [results, Tryd.results18, go_sem, (HE10.out.res 3).cells.2.2.1], rfl, (HE10.out.res 3).m, (HE10.out.res 3).g⟩
      · obtain rfl : k = ne := by omega
        have hke : keyE none v.e = 0 := by rw [← HK.out]; have := keyE_end v.e (prevK v.e k); rwa [HNE.out] at this
        have hrr : r = chkAll f v.parts m1 := by rw [HR2.out, hke]; rfl
        have HRR := Lib.hid hrr
        obtain ⟨ca, cp, cr, cm, fm, fr, lm, lr⟩ := HEr.out.cells
        obtain ⟨c0, c1, c2, c3, c4, c5⟩ := HEr.out.vc
        simp only at c0 c1 c2 c3 c4 c5
        have hpt := parts_any ⟨v, ad, cap, bd, dap⟩ wr
        simp only [Loc.val] at hpt
        have HPT := Lib.hid hpt
        clear hke hrr hpt hlt hk
        go_wp2_with fail
        refine HPT.out.mono ?_
        rintro e w11 ⟨rfl, rfl⟩
        go_wp2_with fail
        have hce := HEr.out.below ((Below.refl _ wr).alloc (Nat.le_refl _) (.cells #[.int .i64 v.k, .int .i64 v.n, .int .u64 v.f, .string v.s, .slice ad v.l.length cap, .slice bd v.e.length dap] 26))
        have hbx : (wr.alloc (.cells #[.int .i64 v.k, .int .i64 v.n, .int .u64 v.f, .string v.s, .slice ad v.l.length cap, .slice bd v.e.length dap] 26)).heap[wr.heap.size]? = some (.cells #[.int .i64 v.k, .int .i64 v.n, .int .u64 v.f, .string v.s, .slice ad v.l.length cap, .slice bd v.e.length dap] 26) := heap_alloc_new wr _
        have hsz : (wr.alloc (.cells #[.int .i64 v.k, .int .i64 v.n, .int .u64 v.f, .string v.s, .slice ad v.l.length cap, .slice bd v.e.length dap] 26)).heap.size = wr.heap.size + 1 := by simp
        have hwr := HEr.out.size
        have hMw := HEr.out.hM
        obtain ⟨W0, hW0⟩ : ∃ W0, wr.alloc (.cells #[.int .i64 v.k, .int .i64 v.n, .int .u64 v.f, .string v.s, .slice ad v.l.length cap, .slice bd v.e.length dap] 26) = W0 := ⟨_, rfl⟩
        rw [hW0] at hce hbx hsz ⊢
        have hv0 : VAt W0 (Bw W0.heap.size M) ⟨v, ad, cap, bd, dap⟩ := HV.out.through hce.g.size (fun b hb hl => hce.g.block b hl (fun e => hb.2 (Option.some.inj e))) (fun b hb hl => ⟨by omega, hb.2⟩)
        obtain ⟨ls, es, hls, hes⟩ := locs_of hv0
        have hmap : vsOf (ls ++ es) = v.parts := by unfold vsOf; rw [List.map_append, hls.1, hes.1]; rfl
        have hlb : ls.length ≤ 1000000000000000 := by rw [hls.len]; have := HV.out.l.lbound; simp only at this ⊢; omega
        have heb : es.length ≤ 1000000000000000 := by rw [hes.len]; have := HV.out.e.ebound; simp only at this ⊢; omega
        have HM2 := HM3
        clear hW0 ca cp cr cm fm fr lm lr c0 c1 c2 c3 c4 c5
        refine (wpIn_wide (n := 5)).1 ?_
        refine wpIn_rangeFunc_ownH (encs := fun x : LocAt W0 W0.heap.size M => #[x.1.val]) (Kp := KeM W0.heap.size M) (S := fun ys => ys = ls ++ es) (Sp := fun pre => pre <+: ls ++ es) (N := ls.length + es.length) (w0 := W0)
          rfl (by decide) (gf := 26) (lb := #[.pointer (some ⟨wr.heap.size, 0, none⟩)]) rfl trivial (enters_of Tryd.func26 (by kernel_rfl) rfl)
          (fun l J Jx W hW hJ hJx hY h0 => parts1_in 4 (by decide) l wr.heap.size W0.heap.size M W0 ⟨v, ad, cap, bd, dap⟩ ls es ⟨by omega, by omega⟩ hls hes hlb heb J Jx W ⟨hW.size, fun k hk hl => hW.block k hl⟩ hJ hY ((hW.block _ (by omega)).trans hbx) h0)
          (fun h k => h.trans k) (KeM.put (Nat.le_refl _)) (Below.refl _ _) (fun _ => rfl)
          (fun pre W => ((chkAll f (vsOf pre) m1).1 = 0 ∧ (chkAll f (vsOf pre) m1).2 ≤ 2000) ∧ CE w ⟨v, ad, cap, bd, dap⟩ a M (chkAll f (vsOf pre) m1).2 0 W ∧ KeM W0.heap.size M W0 W)
          (fun c pre W => (c = .ret ∧ (chkAll f (vsOf pre) m1).1 ≠ 0) ∧ CE w ⟨v, ad, cap, bd, dap⟩ a M (chkAll f (vsOf pre) m1).2 (chkAll f (vsOf pre) m1).1 W)
          (fun s A B row hs hg hr => ⟨hs.1, hs.2.1.own hg (fun k e => ⟨by have := (hr k e).1; omega, (hr k e).2⟩), hs.2.2.trans (KeM.grow hg (fun k e hb => by have := (hr k e).1; have := hb.1; omega))⟩)
          (fun c s A B row hs hg hr => ⟨hs.1, hs.2.own hg (fun k e => ⟨by have := (hr k e).1; omega, (hr k e).2⟩)⟩)
          ⟨⟨rfl, HM2.out⟩, hce, KeM.refl _ _ _⟩
          (fun x a' W => ∃ Bx : Nat, W.heap[Bx]? = some (.cells #[.int .i64 x.1.v.k, .int .i64 x.1.v.n, .int .u64 x.1.v.f, .string x.1.v.s, .slice x.1.ad x.1.v.l.length x.1.cap, .slice x.1.bd x.1.v.e.length x.1.dap] 26) ∧ a' = { tmps := #[.agg #[.int .i64 v.k, .int .i64 v.n, .int .u64 v.f, .string v.s, .slice ad v.l.length cap, .slice bd v.e.length dap], .int .i64 a, .pointer (some ⟨M, 0, none⟩), .pointer (some ⟨w.heap.size, 0, none⟩), .pointer (some ⟨w.heap.size + 1, 0, none⟩), .pointer (some ⟨w.heap.size + 1 + 1, 0, none⟩), .pointer (some ⟨w.heap.size + 1 + 1 + 1, 0, none⟩), .int .i64 0, u8, u9, .pointer (some ⟨Bx, 0, none⟩), undef, .pointer (some ⟨M, 0, none⟩), .pointer (some ⟨M, 0, none⟩), .int .i64 m, .int .i64 (m + 1), .pointer (some ⟨M, 0, none⟩), .pointer (some ⟨M, 0, none⟩), .pointer (some ⟨M, 0, none⟩), .int .i64 m1, .bool false, .agg #[.int .i64 v.k, .int .i64 v.n, .int .u64 v.f, .string v.s, .slice ad v.l.length cap, .slice bd v.e.length dap], .int .i64 a, .int .i64 0, .int .i64 0, .bool false, undef, .pointer (some ⟨w.heap.size, 5, none⟩), .slice bd k dap, .int .i64 k, .int .i64 k, .bool false, u32, u33, u34, u35, u36, u37, u38, u39, u40, u41, u42, u43, u44, u45, u46, u47, u48, u49, u50, u51, u52, u53, u54, u55, u56, u57, u58, u59, u60, .agg #[.int .i64 v.k, .int .i64 v.n, .int .u64 v.f, .string v.s, .slice ad v.l.length cap, .slice bd v.e.length dap], .func (.func 26) #[] #[.pointer (some ⟨wr.heap.size, 0, none⟩)], x.1.val, undef, undef, undef, undef, undef, undef, undef, undef], defers := [] })
          (fun x a' _ X Y row hs hg hr => by
            obtain ⟨Bx, e2, e3⟩ := hs
            exact ⟨Bx, (hg.block Bx (Array.getElem?_eq_some_iff.1 e2).1 (fun e => by obtain ⟨-, o, ho, hc⟩ := hr Bx e.symm; rw [e2] at ho; cases ho; cases hc)).trans e2, e3⟩)
          ?assign ?body ?done ?stop
        case assign =>
          rintro l pre x W K ⟨hp, hce1, hke1⟩ hK
          simp only [Loc.val]
          gi_wp2
          exact hK _ _ ((KeepsOthers.alloc _ _).from _) (KeM.alloc _ _ _ _) ⟨hp, hce1.below ((Below.refl _ W).alloc (Nat.le_refl _) _), hke1.trans (KeM.alloc _ _ _ _)⟩ ⟨W.heap.size, heap_alloc_new W _, rfl⟩
        case body =>
          rintro l pre x a' W hl ⟨rr, hrr⟩ ⟨⟨hp0, hp1⟩, hce1, hke1⟩ ⟨Bx, hbx1, rfl⟩ hlt1
          obtain ⟨ca, cp, cr, cm, fm, fr, lm, lr⟩ := hce1.cells
          have hb1 : CellsAt W Bx 0 x.1 := CellsAt.box hbx1
          obtain ⟨c0, c1, c2, c3, c4, c5⟩ := hb1
          have hvx : VAt W (Bw W.heap.size M) x.1 := x.2.through hke1.size (fun b hb hl => hke1.block b hb hl) (fun b hb hl => ⟨by have := hke1.size; have := hb.1; omega, hb.2⟩)
          have hih := IH.out x.1 (chkAll f (vsOf pre) m1).2 M W hce1.m hp1 (HT.out.but HMB.out hce1.g) hvx
          simp only [Loc.val] at hih
          have HIH := Lib.hid hih
          have HCE1 := Lib.hid hce1
          have HPM : Hid ((chkAll f (vsOf pre) m1).2 ≤ 2000) := Lib.hid hp1
          have HSN : Hid (chkAll f (vsOf (pre ++ [x])) m1 = f x.1.v (chkAll f (vsOf pre) m1).2) := Lib.hid (by rw [vsOf_snoc]; exact chkAll_snoc f _ _ _ hp0)
          have HKE1 := Lib.hid hke1
          obtain ⟨r1, hr1⟩ : ∃ r1, f x.1.v (chkAll f (vsOf pre) m1).2 = r1 := ⟨_, rfl⟩
          rw [hr1] at HIH HSN
          have hle := HF.out x.1.v _ hp1
          rw [hr1] at hle
          have HLE := Lib.hid hle
          clear hih hvx hp0 hp1 hke1 hce1 hr1 hle hrr hbx1
          gi_wp2
          refine ⟨trivial, ?_⟩
          (with_reducible refine (CallsIn.inRound l (callsIn_wide.2 HIH.out)).mono ?_)
          rintro e w12 ⟨rfl, hm12, hg12⟩
          have hce12 := HCE1.out.turn hg12 hm12
          have HK12 := Lib.hid (KeepsFrom.of_grownBy (B := W0.heap.size) hg12 (fun k e => by cases e; omega))
          have HKM12 := Lib.hid (HKE1.out.trans (KeM.grow hg12 (fun k e hb => by cases e; exact hb.2 rfl)))
          have HKM13 := Lib.hid (KeM.grow (n₀ := W0.heap.size) hg12 (fun k e hb => by cases e; exact hb.2 rfl))
          have HCE12 := Lib.hid hce12
          clear ca cp cr cm fm fr lm lr c0 c1 c2 c3 c4 c5 hm12 hg12 hce12
          obtain ⟨ca, cp, cr, cm, fm, fr, lm, lr⟩ := HCE12.out.cells
          by_cases hz : r1.1 = 0
          · have t6 : (((r1.1 : Nat) : Int) != 0) = false := by rw [hz]; rfl
            have HZ := Lib.hid hz
            clear hz
            gi_wp2
            exact ⟨HK12.out, HKM13.out, ⟨by rw [HSN.out]; exact HZ.out, by rw [HSN.out]; exact HLE.out.2 HZ.out⟩, by rw [HSN.out]; exact HCE12.out, HKM12.out⟩
          · have t6 : (((r1.1 : Nat) : Int) != 0) = true := by simp; omega
            gi_wp2
            refine ⟨HK12.out.trans (KeepsFrom.of_grownBy (grownBy_setCell' w12 (w.heap.size + 3) _) (fun k e => by cases e; omega)), ⟨rfl, by rw [HSN.out]; exact hz⟩, by rw [HSN.out]; exact HCE12.out.res _⟩
        case done =>
          rintro D ys W hD rfl ⟨⟨hp0, hp1⟩, hce1, hke1⟩ hK
          have hrf : r = chkAll f (vsOf (ls ++ es)) m1 := by rw [hmap]; exact HRR.out
          have HRF := Lib.hid hrf
          have hce2 := (hce1.res 0).own (grownBy_putObj' _ D (.deferred none)) (fun k e => by cases e; exact ⟨by omega, _, (KeepsOthers.setCell _ _ _).same D _ hK rfl, rfl⟩)
          have HCE2 := Lib.hid hce2
          have hK2 := (KeepsOthers.setCell W ⟨w.heap.size + 3, 0, none⟩ (.int .i64 0)).same D _ hK rfl
          have HK2 := Lib.hid hK2
          obtain ⟨ca, cp, cr, cm, fm, fr, lm, lr⟩ := hce1.cells
          have HP0 := Lib.hid hp0
          clear hrf hce2 hK hK2 hke1 hp0 hp1 hce1
          go_wp2_with fail
          refine ⟨by simp, .inl ⟨_, _, rfl, run_takeDeferred HK2.out, ?_⟩⟩
          refine ⟨.int .i64 0, by simp [results, Tryd.results18, go_sem, HCE2.out.cells.2.2.1], ?_, ?_, ?_⟩
          · rw [HRF.out, HP0.out]; rfl
          · rw [HRF.out]; exact HCE2.out.m
          · exact HCE2.out.g
        case stop =>
          rintro D c pre W hD hSp ⟨⟨rfl, hne0⟩, hce1⟩ hK
          have hrf : r = chkAll f (vsOf pre) m1 := by
            obtain ⟨post, hpost⟩ := hSp
            have h2 : chkAll f (vsOf (ls ++ es)) m1 = chkAll f (vsOf pre) m1 := by
              rw [← hpost, show vsOf (pre ++ post) = vsOf pre ++ vsOf post from by simp [vsOf]]
              exact chkAll_stop f _ _ _ hne0
            rw [← h2, hmap]; exact HRR.out
          have HRF := Lib.hid hrf
          have hce2 := hce1.own (grownBy_putObj' _ D (.deferred none)) (fun k e => by cases e; exact ⟨by omega, _, hK, rfl⟩)
          have HCE2 := Lib.hid hce2
          have HK2 := Lib.hid hK
          clear hrf hce2 hK hne0 hce1 hSp
          refine wpIn_wide.2 ?_
          go_wp2_with fail
          refine ⟨by simp, .inl ⟨_, _, rfl, run_takeDeferred HK2.out, ?_⟩⟩
          refine ⟨.int .i64 ((chkAll f (vsOf pre) m1).1 : Nat), by simp [results, Tryd.results18, go_sem, HCE2.out.cells.2.2.1], ?_, ?_, ?_⟩
          · rw [HRF.out]
          · rw [HRF.out]; exact HCE2.out.m
          · exact HCE2.out.g
  · have t2 : ((o : Int) != 0) = true := by simp; omega
    have hrr : r = (o, m1) := by rw [← HR.out]; unfold chkM; rw [HO.out, if_pos ho0]
    subst hrr
    clear c0 c1 c2 c3 c4 c5 ho0
    go_wp2_with fail
    exact ⟨_, by simp [results, Tryd.results18, go_sem, (HE6.out.res o).cells.2.2.1], rfl, (HE6.out.res o).m, (HE6.out.res o).g⟩
end Go.Proofs.YtpjigecmnefnhaaDoor
