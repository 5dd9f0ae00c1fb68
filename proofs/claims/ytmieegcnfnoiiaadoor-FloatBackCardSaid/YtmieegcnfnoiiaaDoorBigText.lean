/-
  The contract of big.Text. Condition: at most 2^20 words.
-/
import Derived.Test.YtmieegcnfnoiiaaDoorByWord
import Derived.Test.YtmieegcnfnoiiaaDoorBigSub2
import Derived.Test.YtmieegcnfnoiiaaDoorDec
import Derived.BigRegion
namespace Go.Proofs.YtmieegcnfnoiiaaDoor
open Go.RowKit Gx
set_option maxRecDepth 100000

theorem Tryd.info_u8 : (Tryd.prog.info? 5).map (fun i => (i.zero, i.size, i.bytes)) = some (some (.int .u8 0), 1, 1) := by kernel_rfl

/-- what is left of the number when k digits of a piece have been told -/
theorem dig_step (M : Nat) (out : List Nat) (n : Nat) (h : dig n = out ++ dig M) (hM : M ≠ 0) : dig n = (out ++ [M % 10]) ++ dig (M / 10) := by
  rw [h, dig_pos M hM]; simp

def digInts (l : List Nat) : List Int := l.map (fun d => ((48 + d : Nat) : Int))
theorem digInts_snoc (l : List Nat) (d : Nat) : digInts (l ++ [d]) = digInts l ++ [((48 + d : Nat) : Int)] := by simp [digInts]
theorem digInts_len (l : List Nat) : (digInts l).length = l.length := by simp [digInts]

theorem dig_bound (xs : List Int) (h : Words xs) : (dig (bval xs)).length ≤ 10 * xs.length := by
  apply dig_len_le
  have h1 := bval_lt xs h
  have h2 : 4294967296 ^ xs.length ≤ (10 ^ 10) ^ xs.length := Nat.pow_le_pow_left (by decide) _
  rw [← Nat.pow_mul] at h2
  omega

/-- turned round from both ends, a places each -/
def RevTo (os cur : List Int) (L a : Nat) : Prop := ∀ j, j < L → cur.getD j 0 = if j < a ∨ L ≤ j + a then os.getD (L - 1 - j) 0 else os.getD j 0
theorem revTo_zero (os : List Int) (L : Nat) : RevTo os os L 0 := by
  intro j hj
  rw [if_neg (by omega)]
theorem getD_set (l : List Int) (i j : Nat) (v : Int) (h : i < l.length) : (l.set i v).getD j 0 = if i = j then v else l.getD j 0 := by
  by_cases e : i = j
  · subst e; simp [List.getD, List.getElem?_set, h]
  · rw [if_neg e, getD_set_ne _ _ _ _ e]
theorem revTo_step (os cur : List Int) (L a : Nat) (x y : Int) (h : RevTo os cur L a) (hl : cur.length = L) (ha : a + a + 1 < L) (hx : x = cur.getD a 0) (hy : y = cur.getD (L - 1 - a) 0) :
    RevTo os ((cur.set a y).set (L - 1 - a) x) L (a + 1) := by
  intro j hj
  rw [getD_set _ _ _ _ (by rw [List.length_set]; omega), getD_set _ _ _ _ (by omega)]
  have hxa := h a (by omega)
  rw [if_neg (by omega)] at hxa
  have hya := h (L - 1 - a) (by omega)
  rw [if_neg (by omega)] at hya
  by_cases h1 : L - 1 - a = j
  · rw [if_pos h1, if_pos (by omega), hx, hxa]
    congr 1; omega
  · rw [if_neg h1]
    by_cases h2 : a = j
    · rw [if_pos h2, if_pos (by omega), hy, hya]
      congr 1; omega
    · rw [if_neg h2, h j hj]
      by_cases h3 : j < a ∨ L ≤ j + a
      · rw [if_pos h3, if_pos (by omega)]
      · rw [if_neg h3, if_neg (by omega)]
theorem revTo_end (os cur : List Int) (L a : Nat) (h : RevTo os cur L a) (hl : cur.length = L) (ho : os.length = L) (ha : ¬ (a : Int) < (L : Int) - 1 - a) : cur = os.reverse := by
  apply List.ext_getElem
  · simp [hl, ho]
  · intro j h1 h2
    have := h j (by omega)
    rw [List.getElem_reverse]
    have e1 : cur.getD j 0 = cur[j] := by simp [List.getD, List.getElem?_eq_getElem h1]
    have e2 : os.getD (L - 1 - j) 0 = os[os.length - 1 - j]'(by omega) := by
      simp [List.getD, ho, List.getElem?_eq_getElem (show L - 1 - j < os.length by omega)]
    rw [← e1, ← e2, this]
    by_cases h3 : j < a ∨ L ≤ j + a
    · rw [if_pos h3]
    · rw [if_neg h3]
      congr 1; omega

set_option maxHeartbeats 1000000 in
theorem bigText_pos (ad : Option Addr) (cap : Nat) (xs : List Int) (w : World) (h : Rd .u32 w ad cap xs) (hl : xs.length ≤ 1048576) (hn0 : bval xs ≠ 0) :
    Calls Tryd.prog 11 #[.slice ad xs.length cap] w (TextPost (decText (bval xs)) w) := by
  have H := Lib.hid (trimmed_any ad cap xs w h (by omega))
  have hD := dig_bound xs (words_of_rd h)
  have hT := h.trim
  have hcl : (canon (bval xs)).length ≤ 1048576 := by
    have := canon_len_le (bval xs) xs.length (bval_lt _ (words_of_rd h)); omega
  have hcp : 0 < (canon (bval xs)).length := by rw [canon_pos _ hn0]; simp
  have hv : bval (canon (bval xs)) = bval xs := bval_canon _
  unfold TrimmedPost at H
  obtain ⟨n, hn⟩ : ∃ n, n = bval xs := ⟨_, rfl⟩
  rw [← hn] at H hD hT hcl hcp hv hn0 ⊢
  clear hn h
  obtain ⟨A, hA⟩ : ∃ A, A = canon n := ⟨_, rfl⟩
  rw [← hA] at H hT hcl hcp hv
  have HA := Lib.hid hA
  have HV := Lib.hid hv
  have HN0 := Lib.hid hn0
  have HD := Lib.hid hD
  clear hA hv hn0 hD
  have hb0 : ((A.length : Int) == 0) = false := by rw [beq_eq_false_iff_ne]; omega
  go_enter Tryd.func11, Tryd.ntmps11
  go_wp2_with fail
  refine H.out.mono ?_
  rintro e w2 ⟨rfl, rfl⟩
  clear H
  go_wp2
  clear hb0
  go_loopw [0, 3] (fun av v wr => ∃ (N : Nat) (ad' : Option Addr) (cap' : Nat) (B : List Int) (out : List Nat) (vo : Option Addr) (vc : Nat), av = .slice ad' B.length cap' ∧ Hid (B = canon N) ∧ Rd .u32 wr ad' cap' B ∧ B.length ≤ 1048576 ∧ v = .slice vo out.length vc ∧
      wr.ownsRow w.heap.size 5 1 (.slice vo out.length vc) out.length ((digInts out).map (Value.int .u8)) ∧ Hid (dig n = out ++ dig N) ∧ Below w.heap.size w wr)
    (fun _ v _ => (dig n).length - Gx.lenOf v)
  case atStart => exact ⟨n, ad, cap, A, [], none, 0, rfl, HA, hT, hcl, rfl, World.ownsRow_nil _ _ _ _, rfl, Below.refl _ _⟩
  case round =>
    obtain ⟨N, ad', cap', B, out, vo, vc, rfl, hB, hR, hBl, rfl, hown, hdig, hb⟩ := hrel
    by_cases hB0 : B.length = 0
    · have hN : dig n = out := by
        have h1 := hB.out
        have h2 : N = 0 := by
          have := bval_canon N
          rw [← h1, List.eq_nil_of_length_eq_zero hB0] at this
          exact this.symm
        rw [hdig.out, h2, dig_zero, List.append_nil]
      have hL0 : 0 < out.length := by
        rw [← hN, dig_pos n HN0.out]; simp
      have hL1 : out.length ≤ 10485760 := by rw [← hN]; have := HD.out; omega
      have HN := Lib.hid hN
      clear hN hB hR hdig
      obtain ⟨g, gc, he, hg1, hg2, hg3, -⟩ := Gx.own_cell hown hL0
      obtain ⟨rfl, rfl⟩ : vo = some ⟨g, 0, none⟩ ∧ vc = gc := by simpa using he
      clear he
      obtain ⟨L, hLe⟩ : ∃ L, L = out.length := ⟨_, rfl⟩
      obtain ⟨os, hos⟩ : ∃ os, os = digInts out := ⟨_, rfl⟩
      rw [← hLe] at hown hL0 hL1 hg2 ⊢
      rw [← hos] at hown
      have HOS := Lib.hid hos
      have hosl : os.length = L := by rw [hos, digInts_len, hLe]
      have HOSL := Lib.hid hosl
      have HLE := Lib.hid hLe
      clear hLe hos hosl
      go_wp2
      go_loopw [6, 7] (fun iv kv wr => ∃ (a : Nat) (cur : List Int), a ≤ L ∧ iv = .int .i64 a ∧ kv = .int .i64 ((L : Int) - 1 - a) ∧
          wr.ownsRow w.heap.size 5 1 (.slice (some ⟨g, 0, none⟩) L vc) L (cur.map (Value.int .u8)) ∧ Hid (cur.length = L) ∧ Hid (RevTo os cur L a) ∧ Below w.heap.size w wr)
        (fun iv _ _ => L - (intOf iv).toNat)
      case atStart => exact ⟨0, os, Nat.zero_le _, rfl, by simp, hown, HOSL, revTo_zero _ _, hb⟩
      case round =>
        clear hown hb
        obtain ⟨a, cur, ha, rfl, rfl, hown1, hcl, hrev, hb1⟩ := hrel
        by_cases hlt : (a : Int) < (L : Int) - 1 - a
        · have hcl' : cur.length = L := hcl.out
          have hi1 : ((L : Int) - 1 - a).toNat = L - 1 - a := by omega
          have hc1 : wr.cell? ⟨g, a, none⟩ = some (.int .u8 (cur.getD a 0)) := by
            rw [hown1.cellAt a (by omega)]
            simp [List.getD, List.getElem?_eq_getElem (show a < cur.length by omega)]
          have hc2 : wr.cell? ⟨g, L - 1 - a, none⟩ = some (.int .u8 (cur.getD (L - 1 - a) 0)) := by
            rw [hown1.cellAt (L - 1 - a) (by omega)]
            simp [List.getD, List.getElem?_eq_getElem (show L - 1 - a < cur.length by omega)]
          have hf1 : wr.frozen? ⟨g, a, none⟩ = false := hown1.frozenAt a
          have hf2 : wr.frozen? ⟨g, L - 1 - a, none⟩ = false := hown1.frozenAt (L - 1 - a)
          obtain ⟨x, hx⟩ : ∃ x, x = cur.getD a 0 := ⟨_, rfl⟩
          obtain ⟨y, hy⟩ : ∃ y, y = cur.getD (L - 1 - a) 0 := ⟨_, rfl⟩
          rw [← hx] at hc1
          rw [← hy] at hc2
          clear hcl'
          have hj0 : (0 : Int) ≤ (L : Int) - 1 - a := by omega
          have hj1 : (L : Int) - 1 - a < (L : Int) := by omega
          have hj2 : (0 : Int) ≤ (a : Int) := by omega
          have hj3 : (a : Int) < (L : Int) := by omega
          have hst1 := hown1.stored a (.int .u8 y)
          have hst2 := hst1.1.stored (L - 1 - a) (.int .u8 x)
          have hsz := hb1.size
          have hbn := (hb1.grown hst1.2 hsz (fun q e => by cases e; exact hg1)).grown hst2.2 (Nat.le_trans hsz hst1.2.size) (fun q e => by cases e; exact hg1)
          have hon : ((wr.setCell ⟨g, a, none⟩ (.int .u8 y)).setCell ⟨g, L - 1 - a, none⟩ (.int .u8 x)).ownsRow w.heap.size 5 1 (.slice (some ⟨g, 0, none⟩) L vc) L (((cur.set a y).set (L - 1 - a) x).map (Value.int .u8)) := by
            rw [List.map_set, List.map_set]; exact hst2.1
          have HON := Lib.hid hon
          have HBN := Lib.hid hbn
          have hT := Lib.hid (revTo_step os cur L a x y hrev.out hcl.out (by omega) hx hy)
          have hl3 : Hid (((cur.set a y).set (L - 1 - a) x).length = L) := by show _ = _; rw [List.length_set, List.length_set]; exact hcl.out
          clear hst1 hst2 hbn hon hown1 hx hy
          go_wp2
          go_region
          go_wp2
          go_roundw
          case rel => exact ⟨a + 1, (cur.set a y).set (L - 1 - a) x, by omega, by go_num, by congr 1 <;> omega, HON.out.drew, hl3, hT, HBN.out.drew⟩
          case measure => simp [intOf]; omega
        · have hfin : cur = os.reverse := revTo_end os cur L a hrev.out hcl.out HOSL.out (by omega)
          have HF := Lib.hid hfin
          have hdt : decText n = out.reverse.map byteOf := by unfold decText; rw [if_neg HN0.out, HN.out]
          have hLd : (decText n).length = L := by rw [hdt, HLE.out]; simp
          have hbytes : ∀ j (hj : j < (decText n).length), wr.cell? ((⟨g, 0, none⟩ : Addr).add j) = some (.int .u8 ((decText n)[j].toNat : Int)) := by
            intro j hj
            have hjL : j < L := by omega
            rw [Addr.add_lit, Nat.zero_add, hown1.cellAt j (by omega), HF.out, HOS.out]
            have hjo : j < out.reverse.length := by rw [List.length_reverse, ← HLE.out]; exact hjL
            have e1 : (decText n)[j] = byteOf (out.reverse[j]) := by simp [hdt]
            have hd10 : out.reverse[j] < 10 := dig_lt n _ (by rw [HN.out]; exact List.mem_reverse.1 (List.getElem_mem hjo))
            rw [e1, byteOf_nat _ hd10]
            have e2 : (digInts out).reverse = digInts out.reverse := by simp [digInts]
            rw [e2]
            unfold digInts
            rw [List.map_map, List.getElem?_map, List.getElem?_eq_getElem hjo]
            rfl
          have HCV := Lib.hid (run_convert_bytes_back (P := Tryd.prog) wr 55 9 5 ⟨g, 0, none⟩ vc (decText n) Tryd.underlying55 Tryd.underlying5 Tryd.underlying9 hbytes)
          rw [hLd] at HCV
          have hcv := HCV.out
          clear hbytes hLd HCV hown1
          go_wp2
          go_ret
          exact ⟨rfl, hb1⟩
    · have hC := Lib.hid (byWord_any ad' cap' B 1000000000 wr hR hBl (by omega) (by omega))
      have hvB : bval B = N := by rw [hB.out, bval_canon]
      have hN0 : N ≠ 0 := by intro h0; rw [h0] at hB; exact hB0 (by rw [hB.out]; rfl)
      unfold ByWordPost at hC
      rw [hvB] at hC
      have hNl : (canon (N / 1000000000)).length ≤ 1048576 := by
        have h1 := bval_lt B (words_of_rd hR)
        rw [hvB] at h1
        exact Nat.le_trans (canon_len_le _ _ (Nat.lt_of_le_of_lt (Nat.div_le_self _ _) h1)) hBl
      have HNl := Lib.hid hNl
      have HN0 := Lib.hid hN0
      clear hvB hR hB hNl hN0
      go_wp2_with fail
      refine hC.out.mono ?_
      rintro e w3 ⟨ad3, cap3, rfl, hr3, hb3, hfr3⟩
      clear hC
      obtain ⟨M, hM⟩ : ∃ M, M = N / 1000000000 := ⟨_, rfl⟩
      obtain ⟨C, hC⟩ : ∃ C, C = canon (N / 1000000000) := ⟨_, rfl⟩
      obtain ⟨r0, hr0⟩ : ∃ r0 : Int, r0 = ((N % 1000000000 : Nat) : Int) := ⟨_, rfl⟩
      have hr00 : 0 ≤ r0 := by omega
      have hr01 : r0 ≤ 999999999 := by omega
      have hsp : Hid (N = M * 1000000000 + r0.toNat) := by show _ = _; omega
      rw [show (1000000000 : Int).toNat = 1000000000 from rfl, ← hC, ← hr0]
      rw [show (1000000000 : Int).toNat = 1000000000 from rfl, ← hC] at hr3
      have HC : Hid (C = canon M) := by show _ = _; rw [hC, hM]
      have hCl : C.length ≤ 1048576 := by rw [hC]; exact HNl.out
      clear hM hC hr0 HNl
      have hne3 : Hid (∀ a, ad3 = some a → 0 < C.length → (Value.slice vo out.length vc).ownBlock ≠ some a.block) := by
        intro a ha _ e
        have h1 := hfr3 a ha
        have h2 := hown.lt a.block e
        omega
      clear hfr3
      have hown3 : w3.ownsRow w.heap.size 5 1 (.slice vo out.length vc) out.length ((digInts out).map (Value.int .u8)) := Gx.own_keep hown hb3
      have hb4 := hb.trans (hb3.mono hb.size)
      clear hown hb hb3
      go_wp2
      go_loopw [3, 4, 5] (fun v rv kv wr => ∃ (k P : Nat) (r : Int) (out2 : List Nat) (vo : Option Addr) (vc : Nat), k ≤ 9 ∧ kv = .int .i64 k ∧ rv = .int .u32 r ∧ 0 ≤ r ∧ r ≤ 999999999 ∧ v = .slice vo out2.length vc ∧ Hid (P = 10 ^ (9 - k)) ∧ Hid (r < P) ∧
          wr.ownsRow w.heap.size 5 1 (.slice vo out2.length vc) out2.length ((digInts out2).map (Value.int .u8)) ∧ Hid (out2.length = out.length + k) ∧ Hid (dig n = out2 ++ dig (M * P + r.toNat)) ∧ Below w.heap.size w wr ∧ Rd .u32 wr ad3 cap3 C ∧ Hid (∀ a, ad3 = some a → 0 < C.length → (Value.slice vo out2.length vc).ownBlock ≠ some a.block))
        (fun _ _ kv _ => 9 - (intOf kv).toNat)
      case atStart => exact ⟨0, 1000000000, r0, out, vo, vc, by omega, rfl, rfl, hr00, hr01, rfl, rfl, by show _ < _; omega, hown3, rfl, by show _ = _; rw [← hsp.out]; exact hdig.out, hb4, hr3, hne3⟩
      case round =>
        clear hown3 hb4 hr3 hr00 hr01
        obtain ⟨k, P, r, out2, vo2, vc2, hk, rfl, rfl, hr00, hr01, rfl, hP, hrP, hown2, hlen2, hdig2, hb2, hr2, hne2⟩ := hrel
        have hexit : (k = 9 ∨ (C.length = 0 ∧ r = 0)) → dig n = out2 ++ dig M ∧ out.length < out2.length := by
          intro hx
          have h1 := hP.out
          have h2 := hrP.out
          have h3 := hdig2.out
          have h4 := hlen2.out
          have hMr : M * P + r.toNat = M := by
            rcases hx with rfl | ⟨h5, rfl⟩
            · have : P = 1 := h1
              subst this
              omega
            · have h6 : M = 0 := by
                have := bval_canon M
                rw [← HC.out, List.eq_nil_of_length_eq_zero h5] at this
                exact this.symm
              subst h6
              simp
          rw [hMr] at h3
          refine ⟨h3, ?_⟩
          by_cases hk0 : k = 0
          · exfalso
            subst hk0
            have : P = 1000000000 := h1
            subst this
            have := hsp.out
            have h7 := HN0.out
            rcases hx with hx | ⟨h5, rfl⟩
            · omega
            · have h8 := HC.out
              have h6 : M = 0 := by
                have := bval_canon M
                rw [← HC.out, List.eq_nil_of_length_eq_zero h5] at this
                exact this.symm
              subst h6
              have h9 : dig n = out ++ dig N := hdig.out
              have h10 : out2.length = out.length := h4
              rw [h9, dig_pos N h7] at h3
              have h11 := congrArg List.length h3
              simp [dig_zero] at h11
              omega
          · omega
        have HX := Lib.hid hexit
        clear hexit
        by_cases hk9 : k = 9
        · subst hk9
          have hx := HX.out (.inl rfl)
          have HX1 := Lib.hid hx.1
          have hx2 := hx.2
          have hle : out2.length ≤ (dig n).length := by rw [hx.1]; simp
          clear hx HX
          go_wp2
          go_roundw
          case rel => exact ⟨M, ad3, cap3, C, out2, vo2, vc2, rfl, HC, hr2, hCl, rfl, hown2, HX1, hb2⟩
          case measure => simp [Gx.lenOf]; omega
        by_cases hx0 : C.length = 0 ∧ r = 0
        · obtain ⟨hc0, rfl⟩ := hx0
          have hx := HX.out (.inr ⟨hc0, rfl⟩)
          have HX1 := Lib.hid hx.1
          have hx2 := hx.2
          have hle : out2.length ≤ (dig n).length := by rw [hx.1]; simp
          clear hx HX
          have hb1 : decide ((0 : Int) < (C.length : Int)) = false := decide_eq_false (by omega)
          have hb1n : decide (0 < C.length) = false := decide_eq_false (by omega)
          clear hc0
          go_wp2
          go_roundw
          case rel => exact ⟨M, ad3, cap3, C, out2, vo2, vc2, rfl, HC, hr2, hCl, rfl, hown2, HX1, hb2⟩
          case measure => simp [Gx.lenOf]; omega
        clear HX
        have hk8 : k < 9 := by omega
        have hM0 : M * P + r.toNat ≠ 0 := by
          intro h0
          have hP0 : P ≠ 0 := by
            have := hP.out
            intro h1
            rw [h1] at this
            exact absurd this.symm (Nat.ne_of_gt (Nat.pow_pos (by decide)))
          have h1 : M * P = 0 := by omega
          have h2 : M = 0 := by
            rcases Nat.mul_eq_zero.1 h1 with h | h
            · exact h
            · exact absurd h hP0
          apply hx0
          refine ⟨?_, by omega⟩
          rw [HC.out, h2]; rfl
        obtain ⟨P', hP'⟩ : ∃ P', P = 10 * P' ∧ P' = 10 ^ (9 - (k + 1)) := by
          refine ⟨_, ?_, rfl⟩
          rw [hP.out, show 9 - k = 9 - (k + 1) + 1 by omega, Nat.pow_succ, Nat.mul_comm]
        have hsum : M * P + r.toNat = 10 * (M * P') + r.toNat := by rw [hP'.1, Nat.mul_left_comm]
        have hT : Hid (dig n = (out2 ++ [r.toNat % 10]) ++ dig (M * P' + (r / 10).toNat)) := by
          have := dig_step _ _ _ hdig2.out hM0
          rw [show (M * P + r.toNat) % 10 = r.toNat % 10 by omega, show (M * P + r.toNat) / 10 = M * P' + (r / 10).toNat by omega] at this
          exact this
        have hl2 : (out2 ++ [r.toNat % 10]).length ≤ (dig n).length := by rw [hT.out]; simp
        have hDl : (dig n).length ≤ 10485760 := by have := HD.out; omega
        have hol2 : out2.length < 10485760 := by simp at hl2; omega
        have hrP' : Hid (r / 10 < P') := by
          have h1 := hrP.out
          have h2 := hP'.1
          show _ < _
          omega
        have HP' : Hid (P' = 10 ^ (9 - (k + 1))) := hP'.2
        have hl3 : Hid ((out2 ++ [r.toNat % 10]).length = out.length + (k + 1)) := by
          show _ = _
          have := hlen2.out
          simp; omega
        have HI : Hid ((digInts out2).map (Value.int .u8) ++ [.int .u8 (48 + r % 10)] = (digInts (out2 ++ [r.toNat % 10])).map (Value.int .u8)) := by
          show _ = _
          rw [digInts_snoc, List.map_append]
          congr 2
          simp
          omega
        have hsz := hb2.size
        clear hM0 hP' hsum hl2 hDl hP hrP hdig2 hlen2
        have hcc : (0 < C.length) ∨ (C.length = 0 ∧ 0 < r) := by omega
        clear hx0
        rcases hcc with hcc | ⟨hcc, hrr⟩
        · have hb1 : decide ((0 : Int) < (C.length : Int)) = true := by simp; omega
          go_wp2_with (first
            | (at_builtin; refine Gx.wpList_push wr rfl _ _ 55 rfl w.heap.size 5 (.int .u8 0) 1 1 Tryd.underlying55 Tryd.info_u8 rfl (by decide) _ _ _ [.int .u8 (48 + r % 10)] _ rfl rfl (by exact hown2) rfl rfl ?a2 ?a3 ?a4 ?a5 ?_))
          case a2 => intro u hu; simp at hu; subst hu; rfl
          case a3 => omega
          case a4 => omega
          case a5 => omega
          intro v' w' hown5 hg5 hmv5 _
          have hb5 : Below w.heap.size w w' := hb2.grown hg5 hsz (fun k e => (hown2.lt k e).1)
          have hr5 : Rd .u32 w' ad3 cap3 C := Gx.Rd.grown hr2 hg5 (fun a ha hp e => hne2.out a ha hp e.symm)
          have hne5 : Hid (∀ a, ad3 = some a → 0 < C.length → v'.ownBlock ≠ some a.block) := by
            intro a ha hp
            exact hmv5.ne (hr2.at_ a ha hp).2.1 (hne2.out a ha hp)
          rw [HI.out] at hown5
          obtain ⟨vo5, vc5, rfl⟩ := Gx.own_form hown5
          have hown6 : w'.ownsRow w.heap.size 5 1 (.slice vo5 (out2 ++ [r.toNat % 10]).length vc5) (out2 ++ [r.toNat % 10]).length ((digInts (out2 ++ [r.toNat % 10])).map (Value.int .u8)) := by
            simpa using hown5
          have hfl : out2.length + 1 = (out2 ++ [r.toNat % 10]).length := by simp
          rw [hfl] at hne5
          rw [hfl]
          clear hown5 hown2 hg5 hr2 hb2 HI hfl
          go_wp2
          go_roundw
          case rel => exact ⟨k + 1, P', r / 10, out2 ++ [r.toNat % 10], vo5, vc5, by omega, by go_num, rfl, by omega, by omega, rfl, HP', hrP', hown6, hl3, hT, hb5, hr5, hne5⟩
          case measure => simp [intOf]; omega
        · have hb1 : decide ((0 : Int) < (C.length : Int)) = false := decide_eq_false (by omega)
          have hb1n : decide (0 < C.length) = false := decide_eq_false (by omega)
          have HCC := Lib.hid hcc
          clear hcc
          have hb2' : decide ((0 : Int) < r) = true := by simpa using hrr
          go_wp2_with (first
            | (at_builtin; refine Gx.wpList_push wr rfl _ _ 55 rfl w.heap.size 5 (.int .u8 0) 1 1 Tryd.underlying55 Tryd.info_u8 rfl (by decide) _ _ _ [.int .u8 (48 + r % 10)] _ rfl rfl (by exact hown2) rfl rfl ?b2 ?b3 ?b4 ?b5 ?_))
          case b2 => intro u hu; simp at hu; subst hu; rfl
          case b3 => omega
          case b4 => omega
          case b5 => omega
          intro v' w' hown5 hg5 hmv5 _
          have hb5 : Below w.heap.size w w' := hb2.grown hg5 hsz (fun k e => (hown2.lt k e).1)
          have hr5 : Rd .u32 w' ad3 cap3 C := Gx.Rd.grown hr2 hg5 (fun a ha hp e => hne2.out a ha hp e.symm)
          have hne5 : Hid (∀ a, ad3 = some a → 0 < C.length → v'.ownBlock ≠ some a.block) := by
            intro a ha hp
            exact hmv5.ne (hr2.at_ a ha hp).2.1 (hne2.out a ha hp)
          rw [HI.out] at hown5
          obtain ⟨vo5, vc5, rfl⟩ := Gx.own_form hown5
          have hown6 : w'.ownsRow w.heap.size 5 1 (.slice vo5 (out2 ++ [r.toNat % 10]).length vc5) (out2 ++ [r.toNat % 10]).length ((digInts (out2 ++ [r.toNat % 10])).map (Value.int .u8)) := by
            simpa using hown5
          have hfl : out2.length + 1 = (out2 ++ [r.toNat % 10]).length := by simp
          rw [hfl] at hne5
          rw [hfl]
          clear hown5 hown2 hg5 hr2 hb2 HI hfl
          go_wp2
          go_roundw
          case rel => exact ⟨k + 1, P', r / 10, out2 ++ [r.toNat % 10], vo5, vc5, by omega, by go_num, rfl, by omega, by omega, rfl, HP', hrP', hown6, hl3, hT, hb5, hr5, hne5⟩
          case measure => simp [intOf]; omega
end Go.Proofs.YtmieegcnfnoiiaaDoor
