/-
  The walk of typecasekeep.TokFront. Condition: a variable of the library's holds some integer.
-/
import Derived.Test.YtfjeikijmconoaaTokEqual
namespace Go.Proofs.Ytfjeikijmconoaa
open Go.RowKit Gx

theorem TokAt.of_own {w : World} {g n b : Nat} {vo : Option Addr} {vc : Nat} {l : List Tok} (h : w.ownsRow b 28 3 (.slice vo n vc) n (tokCells l)) (hn : l.length = n) : TokAt w vo l := by
  by_cases h0 : n = 0
  · exact .inl (List.eq_nil_of_length_eq_zero (by omega))
  · obtain ⟨g, gc, he, hg⟩ : ∃ g gc, Value.slice vo n vc = .slice (some ⟨g, 0, none⟩) n gc ∧ g < w.heap.size := by
      rcases h.2 with ⟨h1, h2⟩ | ⟨g, cap, cur, h1, h2, h3, _⟩
      · omega
      · exact ⟨g, cap, h1, (Array.getElem?_eq_some_iff.1 h3).1⟩
    obtain ⟨rfl, rfl⟩ : vo = some ⟨g, 0, none⟩ ∧ vc = gc := by simpa using he
    refine .inr ⟨g, rfl, hg, fun k v hv => ?_⟩
    have hk : k < n * 3 := by
      have h1 := tokCells_len l
      have h2 := (List.getElem?_eq_some_iff.1 hv).1
      omega
    rw [h.cellAt k hk]; exact hv

theorem tokCells_take (l : List Tok) (k j : Nat) (h : j < k * 3) : (tokCells (l.take k))[j]? = (tokCells l)[j]? ∨ l.length * 3 ≤ j := by
  by_cases hj : l.length * 3 ≤ j
  · exact .inr hj
  · refine .inl ?_
    have h1 : tokCells l = tokCells (l.take k) ++ tokCells (l.drop k) := by
      conv => lhs; rw [← List.take_append_drop k l]
      simp only [tokCells, List.flatMap_append]
    rw [h1, List.getElem?_append_left]
    rw [tokCells_len, List.length_take]; omega

theorem TokAt.take {w : World} {ad : Option Addr} {l : List Tok} (h : TokAt w ad l) (k : Nat) : TokAt w ad (l.take k) := by
  rcases h with rfl | ⟨b, h1, h2, h3⟩
  · exact .inl (by simp)
  · refine .inr ⟨b, h1, h2, fun j v hv => h3 j v ?_⟩
    have h4 := (List.getElem?_eq_some_iff.1 hv).1
    rw [tokCells_len, List.length_take] at h4
    rcases tokCells_take l k j (by omega) with h5 | h5
    · rw [← h5]; exact hv
    · omega

theorem toksFrom_high (l : List UInt8) : ∀ (f a : Nat), l.length ≤ a + f → ∀ t ∈ toksFrom l a, a ≤ t.2.1 ∧ t.2.1 ≤ t.2.2 ∧ t.2.2 ≤ l.length := by
  intro f
  induction f with
  | zero => intro a h t ht; rw [toksFrom_end _ _ (by omega)] at ht; simp at ht
  | succ f ih =>
    intro a h t ht
    by_cases ha : l.length ≤ a
    · rw [toksFrom_end _ _ ha] at ht; simp at ht
    · have hn := nextTok_fits (l.drop a) (by rw [List.length_drop]; omega)
      rw [List.length_drop] at hn
      rw [toksFrom_step _ a (by omega), List.mem_cons] at ht
      rcases ht with rfl | ht
      · exact ⟨Nat.le_refl _, by show a ≤ a + _; omega, by show a + _ ≤ _; omega⟩
      · have := ih _ (by omega) t ht
        omega

/-- what stands behind a token, cut alone -/
theorem toks_behind (l : List UInt8) (k a : Nat) (ha : toks l = (toks l).take k ++ toksFrom l a) (hk : k ≤ (toks l).length) :
    (toks (l.drop a)).length = (toks l).length - k ∧
    ∀ j (hj : j < (toks l).length - k), ∃ (K : Int) (A E : Nat), (toks l)[k + j]? = some (K, a + A, a + E) ∧ (toks (l.drop a))[j]? = some (K, A, E) ∧ a + A ≤ l.length ∧ a + E ≤ l.length := by
  have h1 : toksFrom l a = (toks l).drop k := by
    have h2 : ((toks l).take k).length = k := by rw [List.length_take]; omega
    have h3 : (toks l).drop k = ((toks l).take k ++ toksFrom l a).drop k := congrArg _ ha
    rw [List.drop_append, h2, Nat.sub_self, List.drop_zero, List.drop_of_length_le (Nat.le_of_eq h2), List.nil_append] at h3
    exact h3.symm
  have h4 : toks (l.drop a) = ((toks l).drop k).map fun t => (t.1, t.2.1 - a, t.2.2 - a) := by
    unfold toks
    rw [toks_drop l a l.length 0 (by omega), Nat.add_zero]
    rw [h1]; rfl
  refine ⟨by rw [h4, List.length_map, List.length_drop], fun j hj => ?_⟩
  have h5 : (toks l)[k + j]? = some (toks l)[k + j] := List.getElem?_eq_getElem (by omega)
  have h6 : (toks l)[k + j] ∈ toksFrom l a := by
    rw [h1, List.mem_iff_getElem?]
    exact ⟨j, by rw [List.getElem?_drop]; exact h5⟩
  have h7 := toksFrom_high l l.length a (by omega) _ h6
  obtain ⟨t, ht⟩ : ∃ t, t = (toks l)[k + j] := ⟨_, rfl⟩
  rw [← ht] at h5 h7
  clear ht h6
  obtain ⟨K, A, E⟩ := t
  simp only [] at h7
  refine ⟨K, A - a, E - a, ?_, ?_, by omega, by omega⟩
  · rw [h5, show a + (A - a) = A by omega, show a + (E - a) = E by omega]
  · rw [h4, List.getElem?_map, List.getElem?_drop, h5]; rfl

theorem tokCells_get? (l : List Tok) (i : Nat) (K : Int) (A E : Nat) (h : l[i]? = some (K, A, E)) :
    (tokCells l)[i * 3]? = some (.int .i64 K) ∧ (tokCells l)[i * 3 + 1]? = some (.int .i64 A) ∧ (tokCells l)[i * 3 + 2]? = some (.int .i64 E) := by
  obtain ⟨h1, h2⟩ := List.getElem?_eq_some_iff.1 h
  have := tokCells_get l i h1
  rw [h2] at this
  exact this

set_option maxHeartbeats 4000000 in
set_option maxRecDepth 4000 in
theorem tokFront_in (s : ByteArray) (k : Nat) (w : World) (hm : MaxOk w) (hs : s.size ≤ 20000) (hk : k < (toks s.data.toList).length) :
    Calls Try.prog 5 #[.string s, .int .i64 k] w (TruePost w) := by
  have hlen : s.data.toList.length = s.size := Array.length_toList
  have HLEN := Lib.hid hlen
  have HM := Lib.hid hm
  have hnl := toks_len s.data.toList
  obtain ⟨a, ha⟩ := tok_place _ k hk
  obtain ⟨hat, hgk, -⟩ := tok_at _ k a ha hk
  have hgk2 : (toks s.data.toList)[k].2.1 = a := by rw [hgk]
  have HA := Lib.hid ha
  rw [hlen] at hat hnl
  obtain ⟨n, hn⟩ : ∃ n, n = (toks s.data.toList).length := ⟨_, rfl⟩
  have hk' := hk
  rw [← hn] at hk' hnl
  have HN := Lib.hid hn
  have hcells := tokCells_get (toks s.data.toList) k hk
  rw [hgk2] at hcells
  obtain ⟨K, hK⟩ : ∃ K, K = (toks s.data.toList)[k].1 := ⟨_, rfl⟩
  obtain ⟨E, hE⟩ : ∃ E, E = (toks s.data.toList)[k].2.2 := ⟨_, rfl⟩
  rw [← hK, ← hE] at hcells
  have HCELLS := Lib.hid hcells
  clear hlen hm ha hgk hcells hn hgk2 hK hE hk
  have d0 : decide ((k : Int) < 0) = false := decide_eq_false (by omega)
  have d1 : decide ((n : Int) ≤ (k : Int)) = false := decide_eq_false (by omega)
  have d2 : decide (n ≤ k) = false := decide_eq_false (by omega)
  go_enter Try.func5, Try.ntmps5
  go_wp2_with fail
  refine (toks_any w HM.out).mono ?_
  rintro e w1 ⟨rfl, hb⟩
  have HB := Lib.hid hb
  clear hb
  go_wp2_with fail
  refine (cut_any s w1 (HM.out.keep HB.out)).mono ?_
  rintro e w2 (⟨-, vo, vc, rfl, hown, hb⟩ | ⟨h, -⟩)
  rotate_left
  · exfalso; rw [HLEN.out] at h; omega
  have HB2 := Lib.hid (HB.out.trans (hb.mono HB.out.size))
  rw [← HN.out] at hown ⊢
  clear hb HB
  have hta := TokAt.of_own (g := 0) hown HN.out.symm
  obtain ⟨g, gc, he, hg, hg2, hcap⟩ : ∃ g gc, Value.slice vo n vc = .slice (some ⟨g, 0, none⟩) n gc ∧ w1.heap.size ≤ g ∧ g < w2.heap.size ∧ n ≤ gc := by
    rcases hown.2 with ⟨h1, h2⟩ | ⟨g, cap, cur, h1, h2, h3, h4, _⟩
    · omega
    · exact ⟨g, cap, h1, h2, (Array.getElem?_eq_some_iff.1 h3).1, h4⟩
  obtain ⟨rfl, rfl⟩ : vo = some ⟨g, 0, none⟩ ∧ vc = gc := by simpa using he
  have HT := Lib.hid hta
  have hcw : ∀ j v, (tokCells (toks s.data.toList))[j]? = some v → w2.cell? ⟨g, j, none⟩ = some v := by
    intro j v hv
    rcases HT.out with h | ⟨b, h1, _, h3⟩
    · rw [h] at hv; simp [tokCells] at hv
    · obtain rfl : g = b := by simpa using h1
      exact h3 j v hv
  have hc0 := hcw _ _ HCELLS.out.1
  have HCW := Lib.hid hcw
  clear he hown hta hcw
  by_cases h7 : K = 7
  · have u : (K == 7) = true := by simpa using h7
    clear h7
    go_wp2
    go_ret
    exact ⟨rfl, HB2.out⟩
  have u : (K == 7) = false := by simpa using h7
  clear h7
  go_wp2_with fail
  clear hc0 u
  go_loopw [45] (fun i wr => ∃ j : Nat, j ≤ n ∧ i = .int .i64 j ∧ Hid (∀ t ∈ (toks s.data.toList).take j, t.1 ≠ 7) ∧ Below w2.heap.size w2 wr)
    (fun i _ => n - (intOf i).toNat)
  case atStart => exact ⟨0, Nat.zero_le _, rfl, fun t h => by simp at h, Below.refl _ _⟩
  case round =>
    obtain ⟨j, hj, rfl, hno, hb⟩ := hrel
    have hbs := hb.size
    have hmo : ∀ j v, (tokCells (toks s.data.toList))[j]? = some v → wr.cell? ⟨g, j, none⟩ = some v := by
      intro j v hv
      rw [hb.cell (p := ⟨g, j, none⟩) hg2]; exact HCW.out j v hv
    have HMO := Lib.hid hmo
    by_cases hlt : j < n
    · have hjn : j < (toks s.data.toList).length := by have := HN.out; omega
      have hg := tokCells_get (toks s.data.toList) j hjn
      obtain ⟨J, hJ⟩ : ∃ J, J = ((toks s.data.toList)[j]).1 := ⟨_, rfl⟩
      obtain ⟨A, hA⟩ : ∃ A, A = ((toks s.data.toList)[j]).2.1 := ⟨_, rfl⟩
      obtain ⟨E, hE⟩ : ∃ E, E = ((toks s.data.toList)[j]).2.2 := ⟨_, rfl⟩
      rw [← hJ, ← hA, ← hE] at hg
      have c0 := hmo _ _ hg.1
      have c1 := hmo _ _ hg.2.1
      have c2 := hmo _ _ hg.2.2
      have hbn : Hid (Below w2.heap.size w2 (wr.alloc (.cells #[.int .i64 J, .int .i64 A, .int .i64 E] 28))) := hb.alloc hbs _
      have hnx : J ≠ 7 → Hid (∀ t ∈ (toks s.data.toList).take (j + 1), t.1 ≠ 7) := by
        intro h7 t ht
        rw [List.take_add_one, List.getElem?_eq_getElem hjn] at ht
        rcases List.mem_append.1 ht with ht | ht
        · exact hno.out t ht
        · simp at ht
          rw [ht, ← hJ]; exact h7
      have HNX := Lib.hid hnx
      clear hmo hg hJ hA hE hjn hno hnx
      by_cases h7 : J = 7
      · have u : (J == 7) = true := by simpa using h7
        clear h7
        go_wp2
        go_ret
        exact ⟨rfl, HB2.out.trans (hbn.out.mono HB2.out.size)⟩
      · have u : (J == 7) = false := by simpa using h7
        have HNY := HNX.out h7
        clear h7
        go_wp2
        go_roundw
        case rel => exact ⟨j + 1, by omega, by go_num, HNY.out, hbn.out⟩
        case measure => simp [intOf]; omega
    · obtain rfl : j = n := by omega
      rw [HN.out, List.take_length] at hno
      have hca := hmo _ _ HCELLS.out.2.1
      have t0 : decide ((a : Int) < 0) = false := decide_eq_false (by omega)
      have t1 : decide ((s.size : Int) < (a : Int)) = false := decide_eq_false (by omega)
      clear hmo
      go_wp2_with fail
      have HB4 := Lib.hid (HB2.out.trans (hb.mono HB2.out.size))
      have HTR := Lib.hid (HT.out.keep hb)
      have hex : (s.extract 0 a).data.toList = s.data.toList.take a := by
        rw [Lib.extract_data, Nat.sub_zero, List.drop_zero]
      have htk : toks (s.data.toList.take a) = (toks s.data.toList).take k :=
        toks_take s.data.toList a (by have := HLEN.out; omega) _ 0 (Nat.zero_le _) HA.out (fun t ht => hno.out t (List.mem_of_mem_take ht))
      have hkl : ((toks s.data.toList).take k).length = k := by rw [List.length_take, ← HN.out]; omega
      have hbe := toks_behind s.data.toList k a HA.out (by rw [← HN.out]; omega)
      rw [← HN.out, HLEN.out] at hbe
      have HBE := Lib.hid hbe
      have hal : (s.data.toList.take a).length ≤ 20000 := by rw [List.length_take]; omega
      have HC := Lib.hid (cut_any (s.extract 0 a) wr (HM.out.keep HB4.out))
      unfold CutPost at HC
      rw [hex, htk, hkl] at HC
      have hex2 : (s.extract a s.size).data.toList = s.data.toList.drop a := by
        rw [Lib.extract_data, List.take_of_length_le]
        rw [List.length_drop, HLEN.out]; omega
      have HEX := Lib.hid hex2
      have HKL := Lib.hid hkl
      clear hex htk hkl hbe hno hex2
      refine HC.out.mono ?_
      rintro e w5 (⟨-, vo1, vc1, rfl, hown1, hb1⟩ | ⟨h, -⟩)
      rotate_left
      · exfalso; omega
      clear HC hal
      have HT1 := Lib.hid (TokAt.of_own (g := 0) hown1 HKL.out)
      have HTR5 := Lib.hid (HTR.out.keep (hb1.mono (Nat.le_refl _)))
      have HB5 := Lib.hid (HB4.out.trans (hb1.mono HB4.out.size))
      have hca5 := (hb1.cell (p := ⟨g, k * 3 + 1, none⟩) (show g < wr.heap.size by omega)).trans hca
      clear hown1 hb1 hca
      go_wp2_with fail
      have hgw5 : g < w5.heap.size := by have := HB5.out; have := HTR5.out; rcases HTR5.out with h | ⟨b, h1, h2, _⟩
                                         · have := HN.out; rw [h] at this; simp at this; omega
                                         · obtain rfl : g = b := by simpa using h1
                                           exact h2
      have hal2 : (s.data.toList.drop a).length ≤ 20000 := by rw [List.length_drop, HLEN.out]; omega
      have HC := Lib.hid (cut_any (s.extract a s.size) w5 (HM.out.keep HB5.out))
      unfold CutPost at HC
      rw [HEX.out, HBE.out.1] at HC
      refine HC.out.mono ?_
      rintro e w6 (⟨-, vo2, vc2, rfl, hown2, hb2⟩ | ⟨h, -⟩)
      rotate_left
      · exfalso; omega
      clear HC hal2
      have HT2 := Lib.hid (TokAt.of_own (g := 0) hown2 HBE.out.1)
      have HT16 := Lib.hid (HT1.out.keep hb2)
      have HTR6 := Lib.hid (HTR5.out.keep hb2)
      have HB6 := Lib.hid (HB5.out.trans (hb2.mono HB5.out.size))
      have hca6 := (hb2.cell (p := ⟨g, k * 3 + 1, none⟩) hgw5).trans hca5
      clear hown2 hb2 hca5 HT1 HTR5
      have hk0 : (0 : Int) ≤ (k : Int) := by omega
      have hkc : (k : Int) ≤ (vc : Int) := by omega
      have hkc2 : k ≤ vc := by omega
      have hjk : IntKind.i64.wrap ((j : Int) - (k : Int)) = ((j - k : Nat) : Int) := by rw [IntKind.wrap_i64]; omega
      have hjk2 : (j : Int) - (k : Int) = ((j - k : Nat) : Int) := by omega
      have hjk3 : (((j - k : Nat) : Int) != ((j - k : Nat) : Int)) = false := by simp
      go_wp2_with fail
      have HE := Lib.hid (tokEqual_any vo1 (some ⟨g, 0, none⟩) vc1 vc ((toks s.data.toList).take k) w6 HT16.out (HTR6.out.take k) (by rw [HKL.out]; omega))
      rw [HKL.out] at HE
      refine HE.out.mono ?_
      rintro e w7 ⟨rfl, hb7⟩
      clear HE
      have HT7 := Lib.hid (HT2.out.keep hb7)
      have HTR7 := Lib.hid (HTR6.out.keep hb7)
      have HB7 := Lib.hid (HB6.out.trans (hb7.mono HB6.out.size))
      clear hb7 HT2 HTR6 HB6 HB5 HB4 HTR HT16 hca6
      go_wp2_with fail
      obtain ⟨wo, rfl⟩ : ∃ wo : World, wo = wr := ⟨_, rfl⟩
      obtain ⟨g2, rfl, hs2, hr2⟩ : ∃ b, vo2 = some ⟨b, 0, none⟩ ∧ b < w7.heap.size ∧ ∀ k v, (tokCells (toks (s.data.toList.drop a)))[k]? = some v → w7.cell? ⟨b, k, none⟩ = some v := by
        refine HT7.out.resolve_left ?_
        intro h
        have h1 := HBE.out.1
        rw [h] at h1; simp at h1; omega
      obtain ⟨hs1, hr1⟩ : g < w7.heap.size ∧ ∀ k v, (tokCells (toks s.data.toList))[k]? = some v → w7.cell? ⟨g, k, none⟩ = some v := by
        rcases HTR7.out with h | ⟨b, h1, h2, h3⟩
        · have h1 := HN.out; rw [h] at h1; simp at h1; omega
        · obtain rfl : g = b := by simpa using h1
          exact ⟨h2, h3⟩
      have HR1 := Lib.hid hr1
      have HR2 := Lib.hid hr2
      clear hr1 hr2 HT7 HTR7 hgw5 hb hbs HMO
      go_loopw [116] (fun i wr => ∃ m : Nat, m ≤ j - k ∧ i = .int .i64 m ∧ Below w7.heap.size w7 wr)
        (fun i _ => (j - k) - (intOf i).toNat)
      case atStart => exact ⟨0, Nat.zero_le _, rfl, Below.refl _ _⟩
      case round =>
        obtain ⟨m, hm, rfl, hb⟩ := hrel
        have hbs := hb.size
        by_cases hlt : m < j - k
        · obtain ⟨J, A, E2, q1, q2, q3, q4⟩ := HBE.out.2 m hlt
          obtain ⟨p0, p1, p2⟩ := tokCells_get? _ _ _ _ _ q1
          obtain ⟨r0, r1, r2⟩ := tokCells_get? _ _ _ _ _ q2
          have c0 := (hb.cell (p := ⟨g2, m * 3, none⟩) hs2).trans (HR2.out _ _ r0)
          have c1 := (hb.cell (p := ⟨g2, m * 3 + 1, none⟩) hs2).trans (HR2.out _ _ r1)
          have c2 := (hb.cell (p := ⟨g2, m * 3 + 2, none⟩) hs2).trans (HR2.out _ _ r2)
          have e0 := (hb.cell (p := ⟨g, (k + m) * 3, none⟩) hs1).trans (HR1.out _ _ p0)
          have e1 := (hb.cell (p := ⟨g, (k + m) * 3 + 1, none⟩) hs1).trans (HR1.out _ _ p1)
          have e2 := (hb.cell (p := ⟨g, (k + m) * 3 + 2, none⟩) hs1).trans (HR1.out _ _ p2)
          have ea := (hb.cell (p := ⟨g, k * 3 + 1, none⟩) hs1).trans (HR1.out _ _ HCELLS.out.2.1)
          rw [show ((a + A : Nat) : Int) = (a : Int) + A by omega] at e1
          rw [show ((a + E2 : Nat) : Int) = (a : Int) + E2 by omega] at e2
          clear p0 p1 p2 r0 r1 r2 q1 q2
          obtain ⟨x1, hx1⟩ : ∃ x, x = wr.alloc (.cells #[.int .i64 J, .int .i64 A, .int .i64 E2] 28) := ⟨_, rfl⟩
          have hgs : g < wr.heap.size := by omega
          have f0 : (wr.alloc (.cells #[.int .i64 J, .int .i64 A, .int .i64 E2] 28)).cell? ⟨g, (k + m) * 3, none⟩ = _ := (World.cell?_alloc_lt _ _ _ hgs).trans e0
          have f1 : (wr.alloc (.cells #[.int .i64 J, .int .i64 A, .int .i64 E2] 28)).cell? ⟨g, (k + m) * 3 + 1, none⟩ = _ := (World.cell?_alloc_lt _ _ _ hgs).trans e1
          have f2 : (wr.alloc (.cells #[.int .i64 J, .int .i64 A, .int .i64 E2] 28)).cell? ⟨g, (k + m) * 3 + 2, none⟩ = _ := (World.cell?_alloc_lt _ _ _ hgs).trans e2
          clear e0 e1 e2 hx1
          have hbn : Hid (Below w7.heap.size w7 ((wr.alloc (.cells #[.int .i64 J, .int .i64 A, .int .i64 E2] 28)).alloc (.cells #[.int .i64 J, .int .i64 ((a : Int) + A), .int .i64 ((a : Int) + E2)] 28))) := (hb.alloc hbs _).alloc (hb.alloc hbs _).size _
          have i0 : (0 : Int) ≤ (k : Int) + m := by omega
          have i1 : (k : Int) + m < (j : Int) := by omega
          have i2 : ((k : Int) + m).toNat = k + m := by omega
          have i3 : IntKind.i64.wrap ((k : Int) + m) = (k : Int) + m := IntWalk.i64_in _ (by omega)
          have i4 : IntKind.i64.wrap ((a : Int) + A - a) = (A : Int) := by rw [IntKind.wrap_i64]; omega
          have i5 : IntKind.i64.wrap ((a : Int) + E2 - a) = (E2 : Int) := by rw [IntKind.wrap_i64]; omega
          have u0 : (J != J) = false := by simp
          have u1 : ((A : Int) != (A : Int)) = false := by simp
          have u2 : ((E2 : Int) != (E2 : Int)) = false := by simp
          clear hjk hjk2 hjk3
          have hsz : (wr.alloc (.cells #[.int .i64 J, .int .i64 A, .int .i64 E2] 28)).heap.size = wr.heap.size + 1 := by simp
          have v0 : ((wr.alloc (.cells #[.int .i64 J, .int .i64 A, .int .i64 E2] 28)).alloc (.cells #[.int .i64 J, .int .i64 ((a : Int) + A), .int .i64 ((a : Int) + E2)] 28)).cell? ⟨wr.heap.size, 0, none⟩ = some (.int .i64 J) := by
            rw [World.cell?_alloc_lt _ _ _ (by rw [hsz]; exact Nat.lt_succ_self _), World.cell?_alloc_mark]; rfl
          have v1 : ((wr.alloc (.cells #[.int .i64 J, .int .i64 A, .int .i64 E2] 28)).alloc (.cells #[.int .i64 J, .int .i64 ((a : Int) + A), .int .i64 ((a : Int) + E2)] 28)).cell? ⟨wr.heap.size, 1, none⟩ = some (.int .i64 A) := by
            rw [World.cell?_alloc_lt _ _ _ (by rw [hsz]; exact Nat.lt_succ_self _), World.cell?_alloc_mark]; rfl
          have v2 : ((wr.alloc (.cells #[.int .i64 J, .int .i64 A, .int .i64 E2] 28)).alloc (.cells #[.int .i64 J, .int .i64 ((a : Int) + A), .int .i64 ((a : Int) + E2)] 28)).cell? ⟨wr.heap.size, 2, none⟩ = some (.int .i64 E2) := by
            rw [World.cell?_alloc_lt _ _ _ (by rw [hsz]; exact Nat.lt_succ_self _), World.cell?_alloc_mark]; rfl
          have v3 : ((wr.alloc (.cells #[.int .i64 J, .int .i64 A, .int .i64 E2] 28)).alloc (.cells #[.int .i64 J, .int .i64 ((a : Int) + A), .int .i64 ((a : Int) + E2)] 28)).cell? ⟨wr.heap.size + 1, 0, none⟩ = some (.int .i64 J) := by
            rw [← hsz, World.cell?_alloc_mark]; rfl
          have v4 : ((wr.alloc (.cells #[.int .i64 J, .int .i64 A, .int .i64 E2] 28)).alloc (.cells #[.int .i64 J, .int .i64 ((a : Int) + A), .int .i64 ((a : Int) + E2)] 28)).cell? ⟨wr.heap.size + 1, 1, none⟩ = some (.int .i64 ((a : Int) + A)) := by
            rw [← hsz, World.cell?_alloc_mark]; rfl
          have v5 : ((wr.alloc (.cells #[.int .i64 J, .int .i64 A, .int .i64 E2] 28)).alloc (.cells #[.int .i64 J, .int .i64 ((a : Int) + A), .int .i64 ((a : Int) + E2)] 28)).cell? ⟨wr.heap.size + 1, 2, none⟩ = some (.int .i64 ((a : Int) + E2)) := by
            rw [← hsz, World.cell?_alloc_mark]; rfl
          have v6 : ((wr.alloc (.cells #[.int .i64 J, .int .i64 A, .int .i64 E2] 28)).alloc (.cells #[.int .i64 J, .int .i64 ((a : Int) + A), .int .i64 ((a : Int) + E2)] 28)).cell? ⟨g, k * 3 + 1, none⟩ = some (.int .i64 a) := by
            rw [World.cell?_alloc_lt _ _ _ (by rw [hsz]; exact Nat.lt_succ_of_lt hgs), World.cell?_alloc_lt _ _ _ hgs]; exact ea
          have V0 := Lib.hid v0
          have V1 := Lib.hid v1
          have V2 := Lib.hid v2
          have V3 := Lib.hid v3
          have V4 := Lib.hid v4
          have V5 := Lib.hid v5
          have V6 := Lib.hid v6
          clear v0 v1 v2 v3 v4 v5 v6 hsz
          go_wp2
          obtain ⟨wz, hwz⟩ : ∃ wz : World, wz = (wr.alloc (.cells #[.int .i64 J, .int .i64 A, .int .i64 E2] 28)).alloc (.cells #[.int .i64 J, .int .i64 ((a : Int) + A), .int .i64 ((a : Int) + E2)] 28) := ⟨_, rfl⟩
          rw [← hwz] at V0 V1 V2 V3 V4 V5 V6 hbn ⊢
          have v0 := V0.out
          have v1 := V1.out
          have v2 := V2.out
          have v3 := V3.out
          have v4 := V4.out
          have v5 := V5.out
          have v6 := V6.out
          clear hwz V0 V1 V2 V3 V4 V5 V6 c0 c1 c2 f0 f1 f2
          have o0 : (0 : Int) ≤ (k : Int) := by omega
          have o1 : (k : Int) < (j : Int) := by omega
          go_quiet (fail)
          go_wp2
          go_roundw
          case rel => exact ⟨m + 1, by omega, by go_num, hbn.out.trans (Gx.drewN_below _ _ _)⟩
          case measure => simp [intOf]; omega
        · obtain rfl : m = j - k := by omega
          go_wp2
          go_ret
          exact ⟨rfl, HB7.out.trans (hb.mono HB7.out.size)⟩

set_option maxHeartbeats 4000000 in
theorem tokFront_out (s : ByteArray) (i : Int) (w : World) (hm : MaxOk w) (hi : s.size ≤ 20000 → i < 0 ∨ ((toks s.data.toList).length : Int) ≤ i) :
    Calls Try.prog 5 #[.string s, .int .i64 i] w (TruePost w) := by
  have hlen : s.data.toList.length = s.size := Array.length_toList
  have HLEN := Lib.hid hlen
  have HM := Lib.hid hm
  have HI := Lib.hid hi
  obtain ⟨n, hn⟩ : ∃ n, n = (toks s.data.toList).length := ⟨_, rfl⟩
  have HN := Lib.hid hn
  clear hlen hm hi hn
  go_enter Try.func5, Try.ntmps5
  go_wp2_with fail
  refine (toks_any w HM.out).mono ?_
  rintro e w1 ⟨rfl, hb⟩
  have HB := Lib.hid hb
  clear hb
  go_wp2_with fail
  refine (cut_any s w1 (HM.out.keep HB.out)).mono ?_
  rintro e w2 (⟨hL, vo, vc, rfl, -, hb⟩ | ⟨-, rfl, rfl⟩)
  · have h := HI.out (by rw [← HLEN.out]; exact hL)
    rw [← HN.out] at h ⊢
    have HB2 := Lib.hid (HB.out.trans (hb.mono HB.out.size))
    clear hb hL HB
    by_cases h0 : i < 0
    · have d0 : decide (i < 0) = true := decide_eq_true h0
      clear h h0
      go_wp2
      go_ret
      exact ⟨rfl, HB2.out⟩
    · have d0 : decide (i < 0) = false := decide_eq_false h0
      have d1 : decide ((n : Int) ≤ i) = true := decide_eq_true (by omega)
      clear h h0
      go_wp2
      go_ret
      exact ⟨rfl, HB2.out⟩
  · go_wp2
    go_ret
    exact ⟨rfl, HB.out⟩

theorem tokFront_walk (s : ByteArray) (i : Int) (w : World) (hm : MaxOk w) :
    Calls Try.prog 5 #[.string s, .int .i64 i] w (TruePost w) := by
  by_cases h : s.size ≤ 20000 ∧ 0 ≤ i ∧ i < ((toks s.data.toList).length : Int)
  · obtain ⟨k, rfl⟩ : ∃ k : Nat, i = (k : Int) := ⟨i.toNat, by omega⟩
    exact tokFront_in s k w hm h.1 (by omega)
  · exact tokFront_out s i w hm (by intro hs; omega)
end Go.Proofs.Ytfjeikijmconoaa
