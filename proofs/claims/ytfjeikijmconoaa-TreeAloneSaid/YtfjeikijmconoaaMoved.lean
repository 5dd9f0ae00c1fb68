/-
  The contract of moved. Conditions: the places are no greater than 100000.
-/
import Derived.Test.YtfjeikijmconoaaAloneSub
import Derived.Test.YtfjeikijmconoaaCoverMem
import Derived.StillTailTactics
import Derived.Deep.DeepCutAuto
namespace Go.Proofs.Ytfjeikijmconoaa
open Go.RowKit Gx
set_option maxRecDepth 100000

theorem kid_cells {w : World} {kids : List Nd} {so : Option Addr} {n sc : Nat} (h : KidsAt w (fun _ => True) kids (.slice so n sc)) (r : Nat) (nd : Nd) (hr : kids[r]? = some nd) :
    ∃ blk, so = some ⟨blk, 0, none⟩ ∧ ∃ ko kc, blk < w.heap.size ∧ w.cell? ⟨blk, r * 4, none⟩ = some (.int .i64 nd.k) ∧ w.cell? ⟨blk, r * 4 + 1, none⟩ = some (.int .i64 nd.a) ∧ w.cell? ⟨blk, r * 4 + 2, none⟩ = some (.int .i64 nd.b) ∧
      w.cell? ⟨blk, r * 4 + 3, none⟩ = some (.slice ko nd.kids.length kc) ∧ KidsAt w (fun _ => True) nd.kids (.slice ko nd.kids.length kc) := by
  cases h with
  | nil => simp at hr
  | row _ sf blk cap hne hB hlt hc hk =>
    obtain ⟨ko, kc, hf⟩ := (hk r nd hr).form
    obtain ⟨c0, c1, c2, c3⟩ := hc r nd hr
    refine ⟨blk, rfl, ko, kc, hlt, c0, c1, c2, by rw [c3, hf], ?_⟩
    rw [← hf]
    exact hk r nd hr
theorem KidsAt.past {w w' : World} {kids : List Nd} {v : Value} (h : KidsAt w (fun _ => True) kids v) (hb : Below w.heap.size w w') : KidsAt w' (fun _ => True) kids v :=
  ((h.weak (C := fun b => b < w.heap.size) (fun b _ hlt => hlt)).grow (row := some w.heap.size) ⟨hb.os, hb.tape, hb.output, hb.size, fun k hk _ => hb.block k hk⟩ (fun b e hb2 => by have := Option.some.inj e; omega)).weak (fun _ _ _ => trivial)

set_option maxHeartbeats 8000000 in
theorem moved_any (X : TS) (hT : X.T.length ≤ 20000) (a b : Nat) (hb : b ≤ 100000) (nd nd' : Nd) (hmv : Mv a b nd nd') : ∀ (w : World) (sl sl' : Value), Covers X nd → KidsAt w (fun _ => True) nd.kids sl → KidsAt w (fun _ => True) nd'.kids sl' →
    Calls Try.prog 15 #[.agg #[.int .i64 nd.k, .int .i64 nd.a, .int .i64 nd.b, sl], .agg #[.int .i64 nd'.k, .int .i64 nd'.a, .int .i64 nd'.b, sl'], .int .i64 a] w (TruePost w) := by
  induction hmv with
  | mk k x y x' y' kids kids' hx hy hxb hyb hl h ih =>
    intro w sl sl' hcv hk hk'
    have hnb := hcv.len
    have HCV := Lib.hid hcv
    clear hcv
    show Calls _ _ #[.agg #[.int .i64 k, .int .i64 x, .int .i64 y, sl], .agg #[.int .i64 k, .int .i64 x', .int .i64 y', sl'], _] w _
    change KidsAt w (fun _ => True) kids sl at hk
    change KidsAt w (fun _ => True) kids' sl' at hk'
    obtain ⟨so, sc, rfl⟩ := hk.form
    obtain ⟨so', sc', rfl⟩ := hk'.form
    have HL := Lib.hid hl
    have HIH := Lib.hid ih
    have HK := Lib.hid hk
    have HK' := Lib.hid hk'
    obtain ⟨n, hn⟩ : ∃ n, kids.length = n := ⟨_, rfl⟩
    have hn' : kids'.length = n := by rw [← hl]; exact hn
    rw [hn, hn']
    rw [hn] at hnb
    have hn2 : n ≤ 20000 := by omega
    have HN := Lib.hid hn
    have HN' := Lib.hid hn'
    have w1f : IntKind.i64.wrap ((x : Int) - (a : Int)) = (x' : Int) := by rw [IntKind.wrap_i64]; omega
    have w2f : IntKind.i64.wrap ((y : Int) - (a : Int)) = (y' : Int) := by rw [IntKind.wrap_i64]; omega
    have u0 : (k != k) = false := by simp
    have u1 : ((x' : Int) != (x' : Int)) = false := by simp
    have u2 : ((y' : Int) != (y' : Int)) = false := by simp
    have u3 : ((n : Int) != (n : Int)) = false := by simp
    clear hx hy hxb hyb hl h ih hk hk' hn hn'
    have hz : (w.alloc (.cells #[.int .i64 k, .int .i64 x, .int .i64 y, .slice so n sc] 34)).heap.size = w.heap.size + 1 := World.size_alloc _ _
    have hb1 : ((w.alloc (.cells #[.int .i64 k, .int .i64 x, .int .i64 y, .slice so n sc] 34)).alloc (.cells #[.int .i64 k, .int .i64 x', .int .i64 y', .slice so' n sc'] 34)).heap[w.heap.size]? = some (.cells #[.int .i64 k, .int .i64 x, .int .i64 y, .slice so n sc] 34) := (heap_alloc_old _ _ (by rw [hz]; exact Nat.lt_succ_self _)).trans (heap_alloc_last w _)
    have hb2 : ((w.alloc (.cells #[.int .i64 k, .int .i64 x, .int .i64 y, .slice so n sc] 34)).alloc (.cells #[.int .i64 k, .int .i64 x', .int .i64 y', .slice so' n sc'] 34)).heap[w.heap.size + 1]? = some (.cells #[.int .i64 k, .int .i64 x', .int .i64 y', .slice so' n sc'] 34) := by rw [← hz]; exact heap_alloc_last _ _
    have hbl : Below w.heap.size w ((w.alloc (.cells #[.int .i64 k, .int .i64 x, .int .i64 y, .slice so n sc] 34)).alloc (.cells #[.int .i64 k, .int .i64 x', .int .i64 y', .slice so' n sc'] 34)) := (((Below.refl w.heap.size w).alloc (Nat.le_refl _) _).alloc (by rw [hz]; omega) _)
    have HB1 := Lib.hid hb1
    have HB2 := Lib.hid hb2
    have HBL := Lib.hid hbl
    have hz2 := (Array.getElem?_eq_some_iff.1 hb2).1
    have HZ2 := Lib.hid hz2
    clear hb1 hb2 hbl hz hz2
    go_enter Try.func15, Try.ntmps15
    go_upto_region 1 with fail
    generalize hw2 : (w.alloc (.cells #[.int .i64 k, .int .i64 x, .int .i64 y, .slice so n sc] 34)).alloc (.cells #[.int .i64 k, .int .i64 x', .int .i64 y', .slice so' n sc'] 34) = w2 at HB1 HB2 HBL HZ2 ⊢
    clear hw2
    obtain ⟨c0, c1, c2, c3, -⟩ := node_cells HB1.out
    obtain ⟨d0, d1, d2, d3, -⟩ := node_cells HB2.out
    go_wp2_with fail
    clear c0 c1 c2 d0 d1 d2 w1f w2f
    go_loopw [43] (fun v43 wr => ∃ r : Nat, r ≤ n ∧ v43 = .int .i64 r ∧ Below w2.heap.size w2 wr) (fun v43 _ => n - (intOf v43).toNat)
    case atStart => exact ⟨0, Nat.zero_le _, rfl, Below.refl _ _⟩
    case round =>
      obtain ⟨r, hr, rfl, hbr⟩ := hrel
      have hbs := hbr.size
      have hbw : Below w.heap.size w wr := HBL.out.trans (hbr.mono HBL.out.size)
      by_cases hlr : r < n
      · obtain ⟨ni, hni⟩ : ∃ ni, kids[r]? = some ni := ⟨_, List.getElem?_eq_getElem (by rw [HN.out]; exact hlr)⟩
        obtain ⟨nj, hnj⟩ : ∃ nj, kids'[r]? = some nj := ⟨_, List.getElem?_eq_getElem (by rw [HN'.out]; exact hlr)⟩
        have hk := HK.out.past hbw
        have hk' := HK'.out.past hbw
        rw [HN.out] at hk
        rw [HN'.out] at hk'
        obtain ⟨blk, rfl, ko, kc, hbk, e0, e1, e2, e3, hkk⟩ := kid_cells hk r ni hni
        obtain ⟨blk', rfl, ko', kc', hbk', f0, f1, f2, f3, hkk'⟩ := kid_cells hk' r nj hnj
        have HB := Lib.hid hbw
        have x3 := (hbr.cell (p := ⟨w.heap.size, 3, none⟩) (show w.heap.size < w2.heap.size by have := HZ2.out; omega)).trans c3
        have y3 := (hbr.cell (p := ⟨w.heap.size + 1, 3, none⟩) HZ2.out).trans d3
        have hIH := HIH.out r ni nj hni hnj wr.drew _ _ (HCV.out.kid (List.mem_of_getElem? hni)) (hkk.grow (grown_drew wr 1 none) (fun b e => by simp at e)) (hkk'.grow (grown_drew wr 1 none) (fun b e => by simp at e))
        generalize ni.k = nk at e0 hIH
        generalize ni.a = na at e1 hIH
        generalize ni.b = nb at e2 hIH
        generalize ni.kids.length = nl at e3 hIH
        generalize nj.k = nk' at f0 hIH
        generalize nj.a = na' at f1 hIH
        generalize nj.b = nb' at f2 hIH
        generalize nj.kids.length = nl' at f3 hIH
        have HI := Lib.hid hIH
        clear hIH hkk hkk' hni hnj hk hk' hbk hbk' c3 d3
        have j1 : (0 : Int) ≤ (r : Int) := by omega
        have j2 : (r : Int) < (n : Int) := by omega
        go_wp2_with fail
        go_still_tail 11, (by kernel_rfl)
        change wpList _ _ _ _ _ wr.drew
        have HBR : Hid (Below w2.heap.size w2 wr.drew) := Lib.hid (hbr.trans (Gx.drewN_below wr 1 _))
        generalize wr.drew = wd at HI HBR ⊢
        clear e0 e1 e2 e3 f0 f1 f2 f3 x3 y3
        go_wp2_with fail
        refine HI.out.mono ?_
        rintro e w9 ⟨rfl, hb9⟩
        have HB9 := Lib.hid (HBR.out.trans (hb9.mono HBR.out.size))
        clear hb9
        go_wp2_with fail
        exact ⟨⟨r + 1, by omega, by go_num, HB9.out⟩, by simp [intOf]; omega⟩
      · obtain rfl : r = n := by omega
        go_wp2_with fail
        try go_ret
        exact ⟨rfl, hbw⟩
end Go.Proofs.Ytfjeikijmconoaa
