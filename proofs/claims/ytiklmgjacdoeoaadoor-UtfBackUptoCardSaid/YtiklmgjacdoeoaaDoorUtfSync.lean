/-
  The walk of typecasekeep.UtfSync. Conditions: Go's two tables of utf8 lie in the world; each text has at most 1048576 bytes.
-/
import Derived.Test.YtiklmgjacdoeoaaDoorUtf8Walk
namespace Go.Proofs.YtiklmgjacdoeoaaDoor
open Go.RowKit Gx

theorem okText_two {a b : List UInt8} (ha : okText a) (hb : okText b) : okText (a ++ b) := by
  obtain ⟨rs, h1, rfl⟩ := ha
  exact (okText_encs rs h1 b).2 hb

/-- what stands ahead of rune j, and j itself -/
theorem at_rune (rs : List Int) (hg : rs.all good = true) (j : Nat) (hj : j < rs.length) :
    ∃ r, good r = true ∧ rs.take (j + 1) = rs.take j ++ [r] ∧ Lib.decodeL ((encs rs).drop (encs (rs.take j)).length) = (r.toNat, (Lib.encodeRune r).length) ∧
      (encs (rs.take (j + 1))).length = (encs (rs.take j)).length + (Lib.encodeRune r).length ∧ (encs (rs.take j)).length < (encs rs).length := by
  have h1 : rs.take (j + 1) = rs.take j ++ [rs[j]] := List.take_succ_eq_append_getElem hj
  have hgr : good rs[j] = true := List.all_eq_true.1 hg _ (List.getElem_mem hj)
  have h2 : encs rs = encs (rs.take j) ++ (Lib.encodeRune rs[j] ++ encs (rs.drop (j + 1))) := by
    rw [← encs_cons, ← List.drop_eq_getElem_cons hj, ← encs_append, List.take_append_drop]
  refine ⟨rs[j], hgr, h1, ?_, ?_, ?_⟩
  · rw [h2, List.drop_left, decode_enc _ hgr]
  · rw [h1, encs_append, List.length_append]
    simp [encs]
  · rw [h2, List.length_append, List.length_append]
    have := (enc_len rs[j]).1
    omega

set_option maxRecDepth 4000 in
set_option maxHeartbeats 2000000 in
theorem utfSync_walk (s t : ByteArray) (k : Int) (w : World) (hT : Tabs w) (hs : s.size ≤ 1048576) (ht : t.size ≤ 1048576) :
    Calls Tryd.prog 3 #[.string s, .string t, .int .i64 k] w (TruePost w) := by
  have HSL := Lib.hid (Lib.size_eq s)
  have HT := Lib.hid hT
  clear hT
  go_enter Tryd.func3, Tryd.ntmps3
  go_wp2_with fail
  refine (utfs_any w).mono ?_
  rintro e w1 ⟨rfl, hb1⟩
  go_wp2_with fail
  refine (bad_any s w1 (HT.out.keep hb1) (by omega)).mono ?_
  rintro e w2 ⟨i, rfl, hi, hb⟩
  have hb2 : Below w.heap.size w w2 := hb1.trans (hb.mono hb1.size)
  have HI := Lib.hid hi
  clear hb hb1 hi
  by_cases h1 : 0 ≤ i
  · go_wp2
    go_ret
    exact ⟨rfl, hb2⟩
  obtain ⟨rs, hg, hrs⟩ := HI.out.1 (by omega)
  have HG := Lib.hid hg
  have HRS := Lib.hid hrs
  have h1d : decide (0 ≤ i) = false := decide_eq_false h1
  clear hg hrs
  go_wp2_with fail
  refine (bad_any t w2 (HT.out.keep hb2) (by omega)).mono ?_
  rintro e w3 ⟨i2, rfl, hi, hb⟩
  have hb3 : Below w.heap.size w w3 := hb2.trans (hb.mono hb2.size)
  have HI2 := Lib.hid hi
  clear hb hb2 hi
  by_cases h2 : 0 ≤ i2
  · go_wp2
    go_ret
    exact ⟨rfl, hb3⟩
  have hok2 : okText (s ++ t).data.toList := by
    have e : (s ++ t).data.toList = s.data.toList ++ t.data.toList := by rw [ByteArray.data_append, Array.toList_append]
    rw [e]
    exact okText_two (HI.out.1 (by omega)) (HI2.out.1 (by omega))
  have h2d : decide (0 ≤ i2) = false := decide_eq_false h2
  have HOK2 := Lib.hid hok2
  clear hok2
  go_wp2_with fail
  refine (bad_any (s ++ t) w3 (HT.out.keep hb3) (by rw [ByteArray.size_append]; omega)).mono ?_
  rintro e w4 ⟨i3, rfl, hi, hb⟩
  have hb4 : Below w.heap.size w w4 := hb3.trans (hb.mono hb3.size)
  have h3 : i3 < 0 := hi.2 HOK2.out
  have h3d : decide (0 ≤ i3) = false := decide_eq_false (by omega)
  clear hb hb3 hi h1 h2 HOK2
  have hsz : s.size = (encs rs).length := by rw [HSL.out, HRS.out]
  have HSZ := Lib.hid hsz
  clear hsz
  go_wp2_with fail
  go_loopw [7, 8] (fun bv av wr => ∃ (j a : Nat) (f : Bool), bv = .bool f ∧ av = .int .i64 a ∧ j ≤ rs.length ∧ Hid (a = (encs (rs.take j)).length) ∧ Hid (f = begins (rs.take j) k) ∧ a ≤ s.size ∧ Below w.heap.size w wr)
    (fun _ a _ => s.size - (intOf a).toNat)
  case atStart => exact ⟨0, 0, false, rfl, rfl, Nat.zero_le _, rfl, rfl, Nat.zero_le _, hb4⟩
  case round =>
    clear hb4
    obtain ⟨j, a, f, rfl, rfl, hj, haj, hf, has, hb4⟩ := hrel
    by_cases hjl : j < rs.length
    · obtain ⟨r, hgr, e1, e2, e3, e4⟩ := at_rune rs HG.out j hjl
      rw [← haj.out] at e2 e3 e4
      obtain ⟨n, hn⟩ : ∃ n, n = (Lib.encodeRune r).length := ⟨_, rfl⟩
      have hn1 := (enc_len r).1
      have hn4 := (enc_len r).2
      rw [← hn] at e2 e3 hn1 hn4
      have hlt : a < s.size := by rw [HSZ.out]; exact e4
      have hle : a + n ≤ s.size := by
        rw [HSZ.out, ← e3]
        have h8 : encs rs = encs (rs.take (j + 1)) ++ encs (rs.drop (j + 1)) := by rw [← encs_append, List.take_append_drop]
        rw [h8, List.length_append]; omega
      have hsn := begins_snoc (rs.take j) r k
      rw [← e1, ← hf.out, ← haj.out] at hsn
      have hdec : dec ((encs rs).drop a) = (r.toNat, n) := by
        unfold dec; rw [if_neg (drop_ne e4), e2]
      have HX := Lib.hid (next_any (s.extract a s.size) wr (HT.out.keep hb4))
      unfold NextPost at HX
      rw [Lib.extract_to_end, HRS.out, hdec] at HX
      have HSN := Lib.hid hsn
      have E3 := Lib.hid e3
      clear hn e1 e2 e3 e4 hsn hdec hgr
      cases f with
      | true =>
        go_wp2_with fail
        refine HX.out.mono ?_
        rintro e w5 ⟨r2, rfl, hb⟩
        have hb5 : Below w.heap.size w w5 := hb4.trans (hb.mono hb4.size)
        clear hb hb4
        go_wp2
        go_roundw
        case rel => exact ⟨j + 1, a + n, true, rfl, by go_num, hjl, E3.out.symm, by show _ = _; rw [HSN.out]; rfl, hle, hb5⟩
        case measure => simp [intOf]; omega
      | false =>
        by_cases hak : (a : Int) = k
        · have hak2 : ((a : Int) == k) = true := by simpa using hak
          subst hak
          go_wp2_with fail
          refine HX.out.mono ?_
          rintro e w5 ⟨r2, rfl, hb⟩
          have hb5 : Below w.heap.size w w5 := hb4.trans (hb.mono hb4.size)
          clear hb hb4
          go_wp2
          go_roundw
          case rel => exact ⟨j + 1, a + n, true, rfl, by go_num, hjl, E3.out.symm, by show _ = _; rw [HSN.out, hak2]; rfl, hle, hb5⟩
          case measure => simp [intOf]; omega
        · have hak2 : ((a : Int) == k) = false := by simpa using hak
          go_wp2_with fail
          refine HX.out.mono ?_
          rintro e w5 ⟨r2, rfl, hb⟩
          have hb5 : Below w.heap.size w w5 := hb4.trans (hb.mono hb4.size)
          clear hb hb4
          go_wp2
          go_roundw
          case rel => exact ⟨j + 1, a + n, false, rfl, by go_num, hjl, E3.out.symm, by show _ = _; rw [HSN.out, hak2]; rfl, hle, hb5⟩
          case measure => simp [intOf]; omega
    · obtain rfl : j = rs.length := by omega
      have ha : a = s.size := by rw [haj.out, List.take_of_length_le (Nat.le_refl _), HSZ.out]
      have hf2 : Hid (f = begins rs k) := by show _ = _; rw [hf.out, List.take_of_length_le (Nat.le_refl _)]
      subst ha
      clear hf haj
      by_cases hk0 : k < 0
      · go_wp2
        go_ret
        exact ⟨rfl, hb4⟩
      by_cases hk1 : (s.size : Int) ≤ k
      · go_wp2
        go_ret
        exact ⟨rfl, hb4⟩
      obtain ⟨m, rfl⟩ := Int.eq_ofNat_of_zero_le (show 0 ≤ k by omega)
      have hm : m < (encs rs).length := by rw [← HSZ.out]; omega
      have hk0d : decide ((m : Int) < 0) = false := decide_eq_false hk0
      have hk1d : decide ((s.size : Int) ≤ (m : Int)) = false := decide_eq_false hk1
      have hms : m < s.size := by omega
      have hD := sync_drop rs m HG.out hm
      have hK := sync_take rs m HG.out hm
      rw [← hf2.out] at hD hK
      have HD := Lib.hid hD
      have HK := Lib.hid hK
      clear hD hK hk0 hk1 hm
      go_wp2_with fail
      refine (bad_any (s.extract m s.size) wr (HT.out.keep hb4) (by simp; omega)).mono ?_
      rintro e w5 ⟨i4, rfl, hi, hb⟩
      have hb5 : Below w.heap.size w w5 := hb4.trans (hb.mono hb4.size)
      rw [Lib.extract_to_end, HRS.out, HD.out] at hi
      have e4 : decide (i4 < 0) = f := by rw [Bool.eq_iff_iff]; simpa using hi
      clear hb hb4 hi
      go_wp2_with fail
      refine (bad_any (s.extract 0 m) w5 (HT.out.keep hb5) (by simp; omega)).mono ?_
      rintro e w6 ⟨i5, rfl, hi, hb⟩
      have hb6 : Below w.heap.size w w6 := hb5.trans (hb.mono hb5.size)
      rw [Lib.extract_data, List.drop_zero, Nat.sub_zero, HRS.out, HK.out] at hi
      have e5 : decide (i5 < 0) = f := by rw [Bool.eq_iff_iff]; simpa using hi
      clear hb hb5 hi
      go_wp2
      go_ret
      exact ⟨by simp [e4, e5], hb6⟩
end Go.Proofs.YtiklmgjacdoeoaaDoor
