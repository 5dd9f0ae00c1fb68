/-
  The walk of TreeAlone. Conditions: a variable of the library's holds some integer; the path lies in memory.
-/
import Derived.Test.YtfjeikijmconoaaSource
import Derived.Test.YtfjeikijmconoaaTreeTold
import Derived.Test.YtfjeikijmconoaaRd
namespace Go.Proofs.Ytfjeikijmconoaa
open Go.RowKit Gx
set_option maxRecDepth 100000

/-- the node at hand, in its block -/
structure AR (w : World) (X : TS) (B : Nat) (nd : Nd) (sl : Value) (wx : World) : Prop where
  bel : Below w.heap.size w wx
  box : wx.heap[B]? = some (.cells #[.int .i64 nd.k, .int .i64 nd.a, .int .i64 nd.b, sl] 34)
  kids : KidsAt wx (fun b => b ≠ B) nd.kids sl
  sole : Sole X nd
  cov : Covers X nd
  lo : w.heap.size ≤ B
theorem Covers.lenN {X : TS} {nd : Nd} (h : Covers X nd) : nd.kids.length ≤ X.T.length := by
  cases nd with
  | mk k a b ks => exact h.len
section
variable {w : World} {X : TS} {B : Nat} {nd m : Nd} {sl : Value} {wx : World}
theorem AR.hi (h : AR w X B nd sl wx) : B < wx.heap.size := (Array.getElem?_eq_some_iff.1 h.box).1
theorem AR.drew (h : AR w X B nd sl wx) : AR w X B nd sl wx.drew :=
  ⟨h.bel.trans (Gx.drewN_below wx 1 _), h.box, h.kids.grow (grown_drew wx 1 none) (fun b e => by simp at e), h.sole, h.cov, h.lo⟩
/-- one kid in the node's place -/
theorem AR.step (h : AR w X B nd sl wx) (r : Nat) (hr : nd.kids[r]? = some m) : ∃ blk cap ko kc, sl = .slice (some ⟨blk, 0, none⟩) nd.kids.length cap ∧ blk ≠ B ∧ wx.cell? ⟨blk, r * 4, none⟩ = some (.int .i64 m.k) ∧ wx.cell? ⟨blk, r * 4 + 1, none⟩ = some (.int .i64 m.a) ∧ wx.cell? ⟨blk, r * 4 + 2, none⟩ = some (.int .i64 m.b) ∧
    wx.cell? ⟨blk, r * 4 + 3, none⟩ = some (.slice ko m.kids.length kc) ∧
    AR w X B m (.slice ko m.kids.length kc) ((((wx.setCell ⟨B, 0, none⟩ (.int .i64 m.k)).setCell ⟨B, 1, none⟩ (.int .i64 m.a)).setCell ⟨B, 2, none⟩ (.int .i64 m.b)).setCell ⟨B, 3, none⟩ (.slice ko m.kids.length kc)) := by
  have hk := h.kids
  have hlo := h.lo
  have hhi := h.hi
  have hmem : m ∈ nd.kids := List.mem_of_getElem? hr
  have hsk := h.sole.kid hmem
  have hck := h.cov.kid hmem
  clear hmem
  generalize nd.kids = ks at hk hr ⊢
  cases hk with
  | nil => simp at hr
  | row _ sf blk cap hne hB hlt hc hk =>
    obtain ⟨ko, kc, hf⟩ := (hk r m hr).form
    obtain ⟨c0, c1, c2, c3⟩ := hc r m hr
    obtain ⟨h7, g7⟩ := store4 h.box (.int .i64 m.k) (.int .i64 m.a) (.int .i64 m.b) (.slice ko m.kids.length kc)
    refine ⟨blk, cap, ko, kc, rfl, hB, c0, c1, c2, by rw [c3, hf], h.bel.grown g7 h.bel.size (fun k e => by have := Option.some.inj e; omega), h7, ?_, hsk, hck, h.lo⟩
    have hk2 := hk r m hr
    rw [hf] at hk2
    exact hk2.grow g7 (fun b e hb => hb (Option.some.inj e).symm)
end
theorem idx_law (q : Int) (n : Nat) (hn : 0 < n) (hb : n ≤ 20000) : ∃ r : Nat, r < n ∧ (q.tmod n + n).tmod n = (r : Int) ∧ IntKind.i64.wrap (q.tmod n + n) = q.tmod n + n := by
  have h1 : -(n : Int) < q.tmod n ∧ q.tmod n < n := by
    have := Int.tmod_lt_of_pos q (b := (n : Int)) (by omega)
    have h2 := Int.lt_tmod_of_pos q (b := (n : Int)) (by omega)
    omega
  have h3 : 0 ≤ (q.tmod n + n).tmod n := Int.tmod_nonneg _ (by omega)
  have h4 := Int.tmod_lt_of_pos (q.tmod n + n) (b := (n : Int)) (by omega)
  refine ⟨((q.tmod n + n).tmod n).toNat, by omega, by omega, IntWalk.i64_in _ (by omega)⟩
set_option maxHeartbeats 8000000 in
theorem treeAlone_walk (s : ByteArray) (w : World) (hm : MaxOk w) (ad : Option Addr) (cap : Nat) (zs : List Int) (rd : Rd .i64 w ad cap zs) : Calls Try.prog 7 #[.string s, .slice ad zs.length cap] w (TruePost w) := by
  have HT := Lib.hid (trees_any w hm)
  have HC : Hid (∀ wz, Below w.heap.size w wz → Calls Try.prog 13 #[.string s] wz (ParsePost s.data.toList wz)) := Lib.hid (fun wz hz => parse_any s wz (hm.keep hz))
  have HM := Lib.hid hm
  have HRD := Lib.hid rd
  clear hm rd
  by_cases hL : 20000 < s.data.toList.length
  · have HL := Lib.hid hL
    clear hL
    go_enter Try.func7, Try.ntmps7
    go_wp2_with fail
    refine HT.out.mono ?_
    rintro e w1 ⟨rfl, hb1⟩
    have HB1 := Lib.hid hb1
    clear hb1
    go_wp2_with fail
    refine (HC.out _ HB1.out).mono ?_
    rintro e w2 ⟨hb2, ⟨-, rfl⟩ | ⟨h1, -⟩ | ⟨h1, -⟩⟩
    rotate_left
    · exact absurd HL.out (by omega)
    · exact absurd HL.out (by omega)
    have HB2 := Lib.hid (HB1.out.trans (hb2.mono HB1.out.size))
    clear hb2 HC HT
    go_wp2_with fail
    try go_ret
    exact ⟨rfl, HB2.out.alloc HB2.out.size _⟩
  · have HL : Hid (s.data.toList.length ≤ 20000) := Lib.hid (by omega)
    clear hL
    by_cases hbd : (parseS (treeX s.data.toList)).bad = 0
    · have hcov := doc_covers (treeX s.data.toList) hbd
      have hsol := doc_sole (treeX s.data.toList) hbd
      have hTl : (treeX s.data.toList).T.length ≤ 20000 := Nat.le_trans (toks_len _) HL.out
      have HBD := Lib.hid hbd
      have HCOV := Lib.hid hcov
      have HSOL := Lib.hid hsol
      have HTL := Lib.hid hTl
      obtain ⟨n, hn⟩ : ∃ n, (treeX s.data.toList).T.length = n := ⟨_, rfl⟩
      have HN := Lib.hid hn
      obtain ⟨P, hP⟩ : ∃ P, zs.length = P := ⟨_, rfl⟩
      have hP63 : P ≤ 9223372036854775807 := by have := HRD.out.ncap; have := HRD.out.cap63; omega
      have HP := Lib.hid hP
      rw [hP]
      clear hbd hcov hn hsol hTl hP
      go_enter Try.func7, Try.ntmps7
      go_wp2_with fail
      refine HT.out.mono ?_
      rintro e w1 ⟨rfl, hb1⟩
      have HB1 := Lib.hid hb1
      clear hb1
      go_wp2_with fail
      refine (HC.out _ HB1.out).mono ?_
      rintro e w2 ⟨hb2, ⟨h1, -⟩ | ⟨-, h1, -⟩ | ⟨-, -, g, rfl, hk2⟩⟩
      · exact absurd HL.out (by omega)
      · exact absurd HBD.out h1
      have HB2 := Lib.hid (HB1.out.trans (hb2.mono HB1.out.size))
      have har : AR w (treeX s.data.toList) w2.heap.size (docNd s.data.toList) (.slice (some ⟨g, 0, none⟩) 1 1) (w2.alloc (.cells #[.int .i64 6, .int .i64 0, .int .i64 (treeX s.data.toList).T.length, .slice (some ⟨g, 0, none⟩) 1 1] 34)) :=
        ⟨HB2.out.alloc HB2.out.size _, heap_alloc_last w2 _, (hk2.weak (fun b _ hlt => Nat.ne_of_lt hlt)).grow (grown_alloc w2 _ none) (fun b e => by simp at e), HSOL.out, HCOV.out, HB2.out.size⟩
      have HAR := Lib.hid har
      clear hb2 HT hk2 har
      rw [HN.out] at HAR ⊢
      obtain ⟨B, hB⟩ : ∃ B, w2.heap.size = B := ⟨_, rfl⟩
      go_wp2_with fail
      rw [hB] at HAR
      try rw [hB]
      generalize w2.alloc (.cells #[.int .i64 6, .int .i64 0, .int .i64 n, .slice (some ⟨g, 0, none⟩) 1 1] 34) = w3 at HAR ⊢
      clear HC HSOL HCOV hB HBD
      go_loopw [8] (fun v8 wr => ∃ j nd so sc, j ≤ P ∧ v8 = .int .i64 (j : Nat) ∧ Hid (AR w (treeX s.data.toList) B nd (.slice so nd.kids.length sc) wr)) (fun v8 _ => P - (intOf v8).toNat)
      case atStart => exact ⟨0, docNd s.data.toList, _, _, Nat.zero_le _, rfl, HAR⟩
      case round =>
        obtain ⟨j, nd, so, sc, hj, rfl, HA⟩ := hrel
        have hcl := HA.out.cov.lenN
        have hcl2 : nd.kids.length ≤ 20000 := Nat.le_trans hcl HTL.out
        obtain ⟨c0, c1, c2, c3, -⟩ := node_cells HA.out.box
        obtain ⟨K, hK⟩ : ∃ K, nd.kids.length = K := ⟨_, rfl⟩
        have HK := Lib.hid hK
        rw [hK] at c3 hcl2
        clear hcl hK
        by_cases hex : j < P ∧ 0 < K
        · obtain ⟨hjP, hK0⟩ := hex
          have t1 : decide ((j : Int) < (P : Int)) = true := decide_eq_true (by omega)
          have t2 : decide ((0 : Int) < (K : Int)) = true := decide_eq_true (by omega)
          have t2n : decide (0 < K) = true := decide_eq_true (by omega)
          obtain ⟨pb, off, rfl, hpb, hpc⟩ := HRD.out.addr (by rw [HP.out]; omega)
          have q0 := (HA.out.bel.cell (p := ⟨pb, off + j, none⟩) hpb).trans (hpc j (by rw [HP.out]; omega))
          generalize zs.getD j 0 = q at q0
          obtain ⟨r, hr, hrq, hwrap⟩ := idx_law q K hK0 hcl2
          obtain ⟨m, hm⟩ : ∃ m, nd.kids[r]? = some m := ⟨_, List.getElem?_eq_getElem (by rw [HK.out]; exact hr)⟩
          obtain ⟨blk, scap, ko, kc, hsl, hbB, d0, d1, d2, d3, hA2⟩ := HA.out.drew.step r hm
          obtain ⟨rfl, -, rfl⟩ : so = some ⟨blk, 0, none⟩ ∧ nd.kids.length = nd.kids.length ∧ sc = scap := by simpa using hsl
          have e0 : wr.cell? ⟨blk, r * 4, none⟩ = _ := d0
          have e1 : wr.cell? ⟨blk, r * 4 + 1, none⟩ = _ := d1
          have e2 : wr.cell? ⟨blk, r * 4 + 2, none⟩ = _ := d2
          have e3 : wr.cell? ⟨blk, r * 4 + 3, none⟩ = _ := d3
          have HA2 := Lib.hid hA2
          have HWR := Lib.hid hwrap
          have HRQ := Lib.hid hrq
          have i1 : (0 : Int) ≤ (j : Int) := by omega
          have i2 : (j : Int) < (P : Int) := by omega
          have i3 : (0 : Int) ≤ (r : Int) := by omega
          have i4 : (r : Int) < (K : Int) := by omega
          have i5 : ¬ (K : Int) = 0 := by omega
          have i6 : ¬ K = 0 := by omega
          clear d0 d1 d2 d3 hA2 hwrap hrq hsl hpc
          go_wp2_with fail
          have wrf := HWR.out
          have rqf := HRQ.out
          go_still_tail 20, (by kernel_rfl)
          change wpList _ _ _ _ _ wr.drew
          have HF := Lib.hid (node_cells HA.out.drew.box)
          obtain ⟨wd, hwd⟩ : ∃ wd : World, wr.drew = wd := ⟨_, rfl⟩
          rw [hwd] at HF HA2 ⊢
          obtain ⟨b0, b1, b2, b3, bf⟩ := HF.out
          have bf0 := bf 0
          have bf1 := bf 1
          have bf2 := bf 2
          have bf3 := bf 3
          rw [HK.out] at b3
          clear wrf rqf e0 e1 e2 e3 c0 c1 c2 c3 q0 hwd bf HF
          go_wp2_with fail
          exact ⟨⟨j + 1, m, ko, kc, by omega, by go_num, HA2⟩, by simp [intOf]; omega⟩
        · have hx : j = P ∨ (j < P ∧ K = 0) := by omega
          have HNDK : ∀ x : Int, nd.k = x → Hid (nd.k = x) := fun x h => Lib.hid h
          rcases hx with hx | ⟨hx, hx2⟩
          have t1 : decide ((j : Int) < (P : Int)) = false := decide_eq_false (by omega)
          go_upto_region 10 with fail
          rotate_left
          have t1 : decide ((j : Int) < (P : Int)) = true := decide_eq_true (by omega)
          have t2 : decide ((0 : Int) < (K : Int)) = false := decide_eq_false (by omega)
          have t2n : decide (0 < K) = false := decide_eq_false (by omega)
          go_upto_region 10 with fail
          all_goals
            by_cases h4 : nd.k = 4
            · obtain ⟨hk2, v, hv1, hvv⟩ := HA.out.sole.cases4 h4
              have hK2 : K = 2 := by rw [← HK.out]; exact hk2
              try (exfalso; omega)
              all_goals
                subst hK2
                have u4 : (nd.k == 4) = true := by simpa using h4
                obtain ⟨blk, scap, ko, kc, hsl, hbB, d0, d1, d2, d3, hA2⟩ := HA.out.step 1 hv1
                obtain ⟨rfl, -, rfl⟩ : so = some ⟨blk, 0, none⟩ ∧ nd.kids.length = nd.kids.length ∧ sc = scap := by simpa using hsl
                obtain ⟨-, -, -, -, bf⟩ := node_cells HA.out.box
                have bf0 := bf 0
                have bf1 := bf 1
                have bf2 := bf 2
                have bf3 := bf 3
                have HA2 := Lib.hid hA2
                have HISV := Lib.hid hvv
                clear hk2 hv1 hvv bf hA2 hsl
                go_upto_region 12 with fail
                generalize (((wr.setCell ⟨B, 0, none⟩ (.int .i64 v.k)).setCell ⟨B, 1, none⟩ (.int .i64 v.a)).setCell ⟨B, 2, none⟩ (.int .i64 v.b)).setCell ⟨B, 3, none⟩ (.slice ko v.kids.length kc) = wx at HA2 ⊢
                clear d0 d1 d2 d3 bf0 bf1 bf2 bf3 c0 c1 c2 c3
                have hends := HISV.out.ends
                have hvk := HISV.out.kind
                have z2 : (v.k == 2) = false := by
                  have : ¬ v.k = 2 := by omega
                  simpa using this
                have z6 : (v.k == 6) = false := by
                  have : ¬ v.k = 6 := by omega
                  simpa using this
                obtain ⟨x0, x1, x2, x3, -⟩ := node_cells HA2.out.box
                have HSRC := Lib.hid (source_any s HL.out v.k v.a v.b hends.1 hends.2.1 hends.2.2 ko v.kids.length kc wx (HM.out.keep HA2.out.bel))
                obtain ⟨st1, st2, st3⟩ := sub_text s.data.toList 30000 v.a v.b hends.1 hends.2.1 hends.2.2
                obtain ⟨p, hp⟩ : ∃ p, subFrom (treeX s.data.toList) v.a = p := ⟨_, rfl⟩
                obtain ⟨e', he'⟩ : ∃ e', subTo (treeX s.data.toList) v.b = e' := ⟨_, rfl⟩
                change subFrom (treeX s.data.toList) v.a ≤ subTo (treeX s.data.toList) v.b at st1
                change subTo (treeX s.data.toList) v.b ≤ _ at st2
                change Sub (treeX s.data.toList) v.a v.b (treeOf ((s.data.toList.drop (subFrom (treeX s.data.toList) v.a)).take (subTo (treeX s.data.toList) v.b - subFrom (treeX s.data.toList) v.a)) 30000) at st3
                rw [hp, he'] at st1 st3 HSRC
                rw [he'] at st2
                have hsub : (s.extract p e').data.toList = (s.data.toList.drop p).take (e' - p) := by rw [Lib.extract_data]
                generalize s.extract p e' = sub at hsub HSRC
                rw [← hsub] at st3
                obtain ⟨l1, l2⟩ := val_alone HISV.out st3
                change (parseS (treeX sub.data.toList)).bad = 0 at l1
                change Mv v.a v.b v (valueS (treeX sub.data.toList) 20 ⟨0, 0, 0⟩).2 at l2
                have hsl : sub.data.toList.length ≤ 20000 := by
                  have h1 := HL.out
                  rw [hsub, List.length_take, List.length_drop]
                  omega
                have HPAR : Hid (∀ wz, Below w.heap.size w wz → Calls Try.prog 13 #[.string sub] wz (ParsePost sub.data.toList wz)) := Lib.hid fun wz hz => parse_any sub wz (HM.out.keep hz)
                have HSL := Lib.hid hsl
                have HL1 := Lib.hid l1
                have HL2 := Lib.hid l2
                have hbb : v.b ≤ 100000 := by have h1 := HTL.out; have h2 := hends.2.1; omega
                clear st1 st2 st3 hp he' hsub l1 l2 hsl hends hvk
                go_wp2_with fail
                refine HSRC.out.mono ?_
                rintro e w4 ⟨rfl, hb4⟩
                have HB4 := Lib.hid hb4
                clear hb4 HSRC
                go_wp2_with fail
                refine (HPAR.out w4 (HA2.out.bel.trans (HB4.out.mono HA2.out.bel.size))).mono ?_
                rintro e w5 ⟨hb5, ⟨h1, -⟩ | ⟨-, h1, -⟩ | ⟨-, -, g2, rfl, hk5⟩⟩
                · exact absurd HSL.out (by omega)
                · exact absurd HL1.out h1
                have HB5 := Lib.hid (HB4.out.trans (hb5.mono HB4.out.size))
                clear hb5 HPAR HL1
                obtain ⟨n2, hn2⟩ : ∃ n2, (treeX sub.data.toList).T.length = n2 := ⟨_, rfl⟩
                rw [hn2]
                have HK5 := Lib.hid ((hk5.weak (C := fun _ => True) (fun _ _ _ => trivial)).grow (grown_alloc w5 (.cells #[.int .i64 6, .int .i64 0, .int .i64 n2, .slice (some ⟨g2, 0, none⟩) 1 1] 34) none) (fun b e => by simp at e))
                clear hk5 hn2 x0 x1 x2 x3
                have HB6 := Lib.hid (HB5.out.alloc HB5.out.size (.cells #[.int .i64 6, .int .i64 0, .int .i64 n2, .slice (some ⟨g2, 0, none⟩) 1 1] 34))
                go_upto_region 15 with fail
                have hbx9 := node_cells (heap_alloc_last w5 (.cells #[.int .i64 6, .int .i64 0, .int .i64 n2, .slice (some ⟨g2, 0, none⟩) 1 1] 34))
                obtain ⟨-, -, -, k3, -⟩ := hbx9
                generalize w5.alloc (.cells #[.int .i64 6, .int .i64 0, .int .i64 n2, .slice (some ⟨g2, 0, none⟩) 1 1] 34) = w6 at HK5 HB6 k3 ⊢
                have hbx6 := (HB6.out.block _ HA2.out.hi).trans HA2.out.box
                obtain ⟨x0, x1, x2, x3, -⟩ := node_cells hbx6
                obtain ⟨v', hv'⟩ : ∃ v', (valueS (treeX sub.data.toList) 20 ⟨0, 0, 0⟩).2 = v' := ⟨_, rfl⟩
                rw [hv'] at HL2
                obtain ⟨blk2, hg2, ko2, kc2, -, f0, f1, f2, f3, hkk2⟩ := kid_cells (kids := (docNd sub.data.toList).kids) HK5.out 0 v' (by rw [← hv']; rfl)
                obtain rfl : g2 = blk2 := by simpa using hg2
                have hkv : KidsAt w6 (fun _ => True) v.kids (.slice ko v.kids.length kc) := (HA2.out.kids.weak (C := fun _ => True) (fun _ _ _ => trivial)).past HB6.out
                have HMO := Lib.hid (moved_any (treeX s.data.toList) HTL.out v.a v.b hbb v v' HL2.out w6.drew _ _ HA2.out.cov (hkv.grow (grown_drew w6 1 none) (fun b e => by simp at e)) (hkk2.grow (grown_drew w6 1 none) (fun b e => by simp at e)))
                clear hv' hg2 hkk2 hkv hbx6
                simp only [Nat.zero_mul, Nat.zero_add] at f0 f1 f2 f3
                generalize v'.kids.length = nl2 at f3 HMO
                generalize v.kids.length = nl1 at x3 HMO
                go_still_tail 20, (by kernel_rfl)
                change wpList _ _ _ _ _ w6.drew
                have HB7 : Hid (Below w.heap.size w w6.drew) := Lib.hid ((HA2.out.bel.trans (HB6.out.mono HA2.out.bel.size)).trans (Gx.drewN_below w6 1 _))
                clear x0 x1 x2 x3 f0 f1 f2 f3 k3
                go_wp2_with fail
                refine HMO.out.mono ?_
                rintro e w8 ⟨rfl, hb8⟩
                have HB8 := Lib.hid (HB7.out.trans (hb8.mono HB7.out.size))
                clear hb8
                go_wp2_with fail
                try go_ret
                exact ⟨rfl, HB8.out⟩
            · have u4 : (nd.k == 4) = false := by simpa using h4
              by_cases h2 : nd.k = 2
              · have u2 : (nd.k == 2) = true := by simpa using h2
                go_wp2_with fail
                try go_ret
                exact ⟨rfl, HA.out.bel⟩
              · have u2 : (nd.k == 2) = false := by simpa using h2
                by_cases h6 : nd.k = 6
                · have u6 : (nd.k == 6) = true := by simpa using h6
                  go_wp2_with fail
                  try go_ret
                  exact ⟨rfl, HA.out.bel⟩
                · have hvv := HA.out.sole.casesN h4 h2 h6
                  have HISV := Lib.hid hvv
                  clear hvv
                  go_upto_region 12 with fail
                  try rw [← HK.out]
                  clear c0 c1 c2 c3
                  have hends := HISV.out.ends
                  have hvk := HISV.out.kind
                  have z2 : (nd.k == 2) = false := by
                    have : ¬ nd.k = 2 := by omega
                    simpa using this
                  have z6 : (nd.k == 6) = false := by
                    have : ¬ nd.k = 6 := by omega
                    simpa using this
                  obtain ⟨x0, x1, x2, x3, -⟩ := node_cells HA.out.box
                  have HSRC := Lib.hid (source_any s HL.out nd.k nd.a nd.b hends.1 hends.2.1 hends.2.2 so nd.kids.length sc wr (HM.out.keep HA.out.bel))
                  obtain ⟨st1, st2, st3⟩ := sub_text s.data.toList 30000 nd.a nd.b hends.1 hends.2.1 hends.2.2
                  obtain ⟨p, hp⟩ : ∃ p, subFrom (treeX s.data.toList) nd.a = p := ⟨_, rfl⟩
                  obtain ⟨e', he'⟩ : ∃ e', subTo (treeX s.data.toList) nd.b = e' := ⟨_, rfl⟩
                  change subFrom (treeX s.data.toList) nd.a ≤ subTo (treeX s.data.toList) nd.b at st1
                  change subTo (treeX s.data.toList) nd.b ≤ _ at st2
                  change Sub (treeX s.data.toList) nd.a nd.b (treeOf ((s.data.toList.drop (subFrom (treeX s.data.toList) nd.a)).take (subTo (treeX s.data.toList) nd.b - subFrom (treeX s.data.toList) nd.a)) 30000) at st3
                  rw [hp, he'] at st1 st3 HSRC
                  rw [he'] at st2
                  have hsub : (s.extract p e').data.toList = (s.data.toList.drop p).take (e' - p) := by rw [Lib.extract_data]
                  generalize s.extract p e' = sub at hsub HSRC
                  rw [← hsub] at st3
                  obtain ⟨l1, l2⟩ := val_alone HISV.out st3
                  change (parseS (treeX sub.data.toList)).bad = 0 at l1
                  change Mv nd.a nd.b nd (valueS (treeX sub.data.toList) 20 ⟨0, 0, 0⟩).2 at l2
                  have hsl : sub.data.toList.length ≤ 20000 := by
                    have h1 := HL.out
                    rw [hsub, List.length_take, List.length_drop]
                    omega
                  have HPAR : Hid (∀ wz, Below w.heap.size w wz → Calls Try.prog 13 #[.string sub] wz (ParsePost sub.data.toList wz)) := Lib.hid fun wz hz => parse_any sub wz (HM.out.keep hz)
                  have HSL := Lib.hid hsl
                  have HL1 := Lib.hid l1
                  have HL2 := Lib.hid l2
                  have hbb : nd.b ≤ 100000 := by have h1 := HTL.out; have h2 := hends.2.1; omega
                  clear st1 st2 st3 hp he' hsub l1 l2 hsl hends hvk
                  go_wp2_with fail
                  refine HSRC.out.mono ?_
                  rintro e w4 ⟨rfl, hb4⟩
                  have HB4 := Lib.hid hb4
                  clear hb4 HSRC
                  go_wp2_with fail
                  refine (HPAR.out w4 (HA.out.bel.trans (HB4.out.mono HA.out.bel.size))).mono ?_
                  rintro e w5 ⟨hb5, ⟨h1, -⟩ | ⟨-, h1, -⟩ | ⟨-, -, g2, rfl, hk5⟩⟩
                  · exact absurd HSL.out (by omega)
                  · exact absurd HL1.out h1
                  have HB5 := Lib.hid (HB4.out.trans (hb5.mono HB4.out.size))
                  clear hb5 HPAR HL1
                  obtain ⟨n2, hn2⟩ : ∃ n2, (treeX sub.data.toList).T.length = n2 := ⟨_, rfl⟩
                  rw [hn2]
                  have HK5 := Lib.hid ((hk5.weak (C := fun _ => True) (fun _ _ _ => trivial)).grow (grown_alloc w5 (.cells #[.int .i64 6, .int .i64 0, .int .i64 n2, .slice (some ⟨g2, 0, none⟩) 1 1] 34) none) (fun b e => by simp at e))
                  clear hk5 hn2 x0 x1 x2 x3
                  have HB6 := Lib.hid (HB5.out.alloc HB5.out.size (.cells #[.int .i64 6, .int .i64 0, .int .i64 n2, .slice (some ⟨g2, 0, none⟩) 1 1] 34))
                  go_upto_region 15 with fail
                  have hbx9 := node_cells (heap_alloc_last w5 (.cells #[.int .i64 6, .int .i64 0, .int .i64 n2, .slice (some ⟨g2, 0, none⟩) 1 1] 34))
                  obtain ⟨-, -, -, k3, -⟩ := hbx9
                  generalize w5.alloc (.cells #[.int .i64 6, .int .i64 0, .int .i64 n2, .slice (some ⟨g2, 0, none⟩) 1 1] 34) = w6 at HK5 HB6 k3 ⊢
                  have hbx6 := (HB6.out.block _ HA.out.hi).trans HA.out.box
                  obtain ⟨x0, x1, x2, x3, -⟩ := node_cells hbx6
                  obtain ⟨v', hv'⟩ : ∃ v', (valueS (treeX sub.data.toList) 20 ⟨0, 0, 0⟩).2 = v' := ⟨_, rfl⟩
                  rw [hv'] at HL2
                  obtain ⟨blk2, hg2, ko2, kc2, -, f0, f1, f2, f3, hkk2⟩ := kid_cells (kids := (docNd sub.data.toList).kids) HK5.out 0 v' (by rw [← hv']; rfl)
                  obtain rfl : g2 = blk2 := by simpa using hg2
                  have hkv : KidsAt w6 (fun _ => True) nd.kids (.slice so nd.kids.length sc) := (HA.out.kids.weak (C := fun _ => True) (fun _ _ _ => trivial)).past HB6.out
                  have HMO := Lib.hid (moved_any (treeX s.data.toList) HTL.out nd.a nd.b hbb nd v' HL2.out w6.drew _ _ HA.out.cov (hkv.grow (grown_drew w6 1 none) (fun b e => by simp at e)) (hkk2.grow (grown_drew w6 1 none) (fun b e => by simp at e)))
                  clear hv' hg2 hkk2 hkv hbx6
                  simp only [Nat.zero_mul, Nat.zero_add] at f0 f1 f2 f3
                  generalize v'.kids.length = nl2 at f3 HMO
                  generalize nd.kids.length = nl1 at x3 HMO
                  go_still_tail 20, (by kernel_rfl)
                  change wpList _ _ _ _ _ w6.drew
                  have HB7 : Hid (Below w.heap.size w w6.drew) := Lib.hid ((HA.out.bel.trans (HB6.out.mono HA.out.bel.size)).trans (Gx.drewN_below w6 1 _))
                  clear x0 x1 x2 x3 f0 f1 f2 f3 k3
                  go_wp2_with fail
                  refine HMO.out.mono ?_
                  rintro e w8 ⟨rfl, hb8⟩
                  have HB8 := Lib.hid (HB7.out.trans (hb8.mono HB7.out.size))
                  clear hb8
                  go_wp2_with fail
                  try go_ret
                  exact ⟨rfl, HB8.out⟩
    · have hb5 : (parseS (treeX s.data.toList)).bad = 4 ∨ (parseS (treeX s.data.toList)).bad = 5 := by
        rcases parse_told (treeX s.data.toList) with h | ⟨h45, -⟩
        · exact absurd h hbd
        · exact h45
      have HBD := Lib.hid hbd
      obtain ⟨E, hE⟩ : ∃ E, (parseS (treeX s.data.toList)).bad = E := ⟨_, rfl⟩
      obtain ⟨k, hk⟩ : ∃ k, (parseS (treeX s.data.toList)).wh = k := ⟨_, rfl⟩
      rw [hE] at hb5
      have tE : (E != 0) = true := by rcases hb5 with rfl | rfl <;> rfl
      have HE := Lib.hid hE
      have HK := Lib.hid hk
      clear hbd hb5 hE hk
      go_enter Try.func7, Try.ntmps7
      go_wp2_with fail
      refine HT.out.mono ?_
      rintro e w1 ⟨rfl, hb1⟩
      have HB1 := Lib.hid hb1
      clear hb1
      go_wp2_with fail
      refine (HC.out _ HB1.out).mono ?_
      rintro e w2 ⟨hb2, ⟨h1, -⟩ | ⟨-, -, rfl⟩ | ⟨-, h1, -⟩⟩
      · exact absurd HL.out (by omega)
      rotate_left
      · exact absurd h1 HBD.out
      rw [HE.out, HK.out]
      have HB2 := Lib.hid (HB1.out.trans (hb2.mono HB1.out.size))
      clear hb2 HC HT
      go_wp2_with fail
      try go_ret
      exact ⟨rfl, HB2.out.alloc HB2.out.size _⟩
end Go.Proofs.Ytfjeikijmconoaa
