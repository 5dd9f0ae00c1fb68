/-
  The walks of typecasekeep.EscBack, EscSame, EscKey. Conditions: the library's tables lie in the world; each text has at most 1048576 bytes.
-/
import Derived.Test.YtnkhnkklejakjaaDoorBare
namespace Go.Proofs.YtnkhnkklejakjaaDoor
open Go.RowKit Gx
set_option maxRecDepth 100000

theorem indexByte_none (c : UInt8) : ∀ (l : List UInt8), c ∉ l → Lib.indexByte l c = -1
  | [], _ => rfl
  | b :: l, h => by
    have hb : (b == c) = false := by rw [beq_eq_false_iff_ne]; rintro rfl; exact h (by simp)
    unfold Lib.indexByte
    rw [hb, indexByte_none c l (fun h2 => h (by simp [h2]))]
    rfl
theorem unqF_count : ∀ (f : Nat) (l : List UInt8) (rs : List Int) (k : Nat), unqF f l = some (rs, k) → rs.length ≤ k
  | 0, l, rs, k, h => by cases h
  | f + 1, [], rs, k, h => by cases h
  | f + 1, b :: t, rs, k, h => by
    unfold unqF at h
    split at h
    · obtain ⟨rfl, rfl⟩ := Prod.mk.inj (Option.some.inj h); simp
    split at h
    · cases h
    split at h
    · split at h
      · cases h
      · obtain ⟨ts, j, h1, rfl, rfl⟩ := more_some h
        have := unqF_count f _ ts j h1
        rw [List.length_cons]; omega
    split at h
    · cases h
    · obtain ⟨ts, j, h1, rfl, rfl⟩ := more_some h
      have := unqF_count f _ ts j h1
      have hp := decodeL_pos (b :: t)
      rw [List.length_cons]; omega
theorem unquote_count {q : List UInt8} {rs : List Int} {n : Nat} (h : unquote q = some (rs, n)) : rs.length ≤ n := by
  unfold unquote at h
  split at h
  · obtain ⟨⟨ts, k⟩, h1, h2⟩ := Option.map_eq_some_iff.1 h
    obtain ⟨rfl, rfl⟩ := Prod.mk.inj h2
    have := unqF_count _ _ _ _ h1
    show ts.length ≤ k + 1
    omega
  · cases h
/-- what is read of a text that is told -/
theorem unq_yes (s : ByteArray) (rs : List Int) (n : Nat) (w : World) (hT : ETabs w) (hs : s.size ≤ 1000000000) (h : unquote s.data.toList = some (rs, n)) :
    Calls Tryd.prog 7 #[.string s] w fun e w' => e = .returned (.tuple #[.string ⟨(encs rs).toArray⟩, .int .i64 (n : Nat), .int .i64 0]) ∧ Below w.heap.size w w' := by
  refine (unquote_any s w hT hs).mono ?_
  rintro e w' (⟨rs2, n2, h2, rfl, hb⟩ | ⟨h2, -⟩)
  · rw [h] at h2
    obtain ⟨rfl, rfl⟩ := Prod.mk.inj (Option.some.inj h2)
    exact ⟨rfl, hb⟩
  · rw [h] at h2; cases h2
theorem unq_no (s : ByteArray) (w : World) (hT : ETabs w) (hs : s.size ≤ 1000000000) (h : unquote s.data.toList = none) :
    Calls Tryd.prog 7 #[.string s] w fun e w' => ∃ c : Int, c ≠ 0 ∧ e = .returned (.tuple #[.string ⟨#[]⟩, .int .i64 0, .int .i64 c]) ∧ Below w.heap.size w w' := by
  refine (unquote_any s w hT hs).mono ?_
  rintro e w' (⟨rs2, n2, h2, -⟩ | ⟨-, h2⟩)
  · rw [h] at h2; cases h2
  · exact h2

set_option maxHeartbeats 8000000 in
theorem escBack_walk (s t : ByteArray) (w : World) (hT : ETabs w) (hs : s.size ≤ 1048576) (ht : t.size ≤ 1048576) : Calls Tryd.prog 5 #[.string s, .string t] w (BoolB true w) := by
  have HE := Lib.hid (escs_any w)
  unfold BoolB at HE
  have HT := Lib.hid hT
  have hfin : ∀ w', Below w.heap.size w w' → BoolB true w (.returned (.bool true)) w' := fun w' h => ⟨rfl, h⟩
  have HFIN := Lib.hid hfin
  generalize BoolB true w = POST at *
  clear hT hfin
  by_cases hok : okText s.data.toList
  · obtain ⟨rs, hg, hl⟩ := hok
    obtain ⟨q, hq⟩ : ∃ q : ByteArray, q = ⟨(quoteOf rs).toArray⟩ := ⟨_, rfl⟩
    have hql : q.data.toList = quoteOf rs := by rw [hq]
    have hqs : q.size ≤ 6291458 := by
      have := quoteOf_le rs hg
      rw [Lib.size_eq, hql]
      rw [Lib.size_eq, hl] at hs
      omega
    obtain ⟨ok1, ok2⟩ := quoteOf_ok rs hg
    rw [← hql] at ok1 ok2
    have hQ : ∀ w0, ETabs w0 → Calls Tryd.prog 8 #[.string s] w0 fun e w' => e = .returned (.tuple #[.string q, .int .i64 0]) ∧ Below w0.heap.size w0 w' := by
      intro w0 h0
      have := quote_yes s rs w0 h0 (by omega) hg hl
      unfold StrErr at this
      rwa [← hq] at this
    have hsz : (q ++ t).size = q.size + t.size := by rw [Lib.size_eq, Lib.size_eq q, Lib.size_eq t]; simp
    have hun : unquote (q ++ t).data.toList = some (rs, q.size) := by
      have h1 : (q ++ t).data.toList = quoteOf rs ++ t.data.toList := by simp [hql]
      rw [h1, unquote_quote rs hg, Lib.size_eq, hql]
    have hse : (⟨(encs rs).toArray⟩ : ByteArray) = s := bytes_of (by rw [hl])
    have hU : ∀ w0, ETabs w0 → Calls Tryd.prog 7 #[.string (q ++ t)] w0 fun e w' => e = .returned (.tuple #[.string s, .int .i64 (q.size : Nat), .int .i64 0]) ∧ Below w0.heap.size w0 w' := by
      intro w0 h0
      have := unq_yes (q ++ t) rs q.size w0 h0 (by omega) hun
      rwa [hse] at this
    have hC : ∀ w0, Calls Tryd.prog 12 #[.string q, .string ⟨#[10]⟩] w0 fun e w' => e = .returned (.bool false) ∧ w' = w0 := by
      intro w0
      have := Tryd.strings_Contains_one q 10 w0
      rw [indexByte_none 10 _ ok2] at this
      exact this
    have hB : ∀ w0, ETabs w0 → Calls Tryd.prog 10 #[.string q] w0 fun e w' => ∃ i : Int, e = .returned (.int .i64 i) ∧ i < 0 ∧ Below w0.heap.size w0 w' := by
      intro w0 h0
      refine (bad_any q w0 h0.u (by omega)).mono ?_
      rintro e w' ⟨i, rfl, hi, hb⟩
      exact ⟨i, rfl, hi.2 ok1, hb⟩
    have HQ := Lib.hid hQ
    have HU := Lib.hid hU
    have HC := Lib.hid hC
    have HB := Lib.hid hB
    clear hQ hU hC hB hq hql ok1 ok2 hsz hun hse hg hl
    go_enter Tryd.func5, Tryd.ntmps5
    go_wp2_with fail
    refine HE.out.mono ?_
    rintro e0 w1 ⟨rfl, hb1⟩
    have B1 := Lib.hid hb1
    clear hb1
    go_wp2_with fail
    refine (HQ.out w1 (HT.out.keep B1.out)).mono ?_
    rintro e0 w2 ⟨rfl, hb⟩
    have B2 := Lib.hid (B1.out.trans (hb.mono B1.out.size))
    clear hb
    go_wp2_with fail
    refine (HU.out w2 (HT.out.keep B2.out)).mono ?_
    rintro e0 w3 ⟨rfl, hb⟩
    have B3 := Lib.hid (B2.out.trans (hb.mono B2.out.size))
    clear hb
    go_wp2_with fail
    refine (HC.out w3).mono ?_
    rintro e0 w4 ⟨rfl, rfl⟩
    go_wp2_with fail
    refine (HB.out _ (HT.out.keep B3.out)).mono ?_
    rintro e0 w5 ⟨i, rfl, hi, hb⟩
    have B5 := Lib.hid (B3.out.trans (hb.mono B3.out.size))
    have ti : decide (i < 0) = true := decide_eq_true hi
    clear hb
    go_wp2_with fail
    try go_ret
    exact HFIN.out _ B5.out
  · have hQ := fun w0 (h0 : ETabs w0) => quote_no s w0 h0 (by omega) hok
    unfold StrErr at hQ
    have HQ := Lib.hid hQ
    have hB : ∀ w0, ETabs w0 → Calls Tryd.prog 10 #[.string s] w0 fun e w' => ∃ i : Int, e = .returned (.int .i64 i) ∧ 0 ≤ i ∧ Below w0.heap.size w0 w' := by
      intro w0 h0
      refine (bad_any s w0 h0.u (by omega)).mono ?_
      rintro e w' ⟨i, rfl, hi, hb⟩
      refine ⟨i, rfl, ?_, hb⟩
      rcases Int.lt_or_le i 0 with h | h
      · exact absurd (hi.1 h) hok
      · exact h
    have HB := Lib.hid hB
    clear hQ hB hok
    go_enter Tryd.func5, Tryd.ntmps5
    go_wp2_with fail
    refine HE.out.mono ?_
    rintro e0 w1 ⟨rfl, hb1⟩
    have B1 := Lib.hid hb1
    clear hb1
    go_wp2_with fail
    refine (HQ.out w1 (HT.out.keep B1.out)).mono ?_
    rintro e0 w2 ⟨rfl, hb⟩
    have B2 := Lib.hid (B1.out.trans (hb.mono B1.out.size))
    clear hb
    go_wp2_with fail
    refine (HB.out _ (HT.out.keep B2.out)).mono ?_
    rintro e0 w5 ⟨i, rfl, hi, hb⟩
    have B5 := Lib.hid (B2.out.trans (hb.mono B2.out.size))
    have ti : decide (0 ≤ i) = true := decide_eq_true hi
    clear hb
    go_wp2_with fail
    try go_ret
    exact HFIN.out _ B5.out

set_option maxHeartbeats 8000000 in
theorem escSame_walk (q : ByteArray) (w : World) (hT : ETabs w) (hs : q.size ≤ 1048576) : Calls Tryd.prog 3 #[.string q] w (BoolB true w) := by
  have HE := Lib.hid (escs_any w)
  unfold BoolB at HE
  have HT := Lib.hid hT
  have hfin : ∀ w', Below w.heap.size w w' → BoolB true w (.returned (.bool true)) w' := fun w' h => ⟨rfl, h⟩
  have HFIN := Lib.hid hfin
  generalize BoolB true w = POST at *
  clear hT hfin
  cases hu : unquote q.data.toList with
  | none =>
    have HU := Lib.hid (fun w0 (h0 : ETabs w0) => unq_no q w0 h0 (by omega) hu)
    clear hu
    go_enter Tryd.func3, Tryd.ntmps3
    go_wp2_with fail
    refine HE.out.mono ?_
    rintro e0 w1 ⟨rfl, hb1⟩
    have B1 := Lib.hid hb1
    clear hb1
    go_wp2_with fail
    refine (HU.out w1 (HT.out.keep B1.out)).mono ?_
    rintro e0 w2 ⟨c, hc, rfl, hb⟩
    have B2 := Lib.hid (B1.out.trans (hb.mono B1.out.size))
    have tc : (c != 0) = true := by rw [bne_iff_ne]; exact hc
    clear hb hc
    go_wp2_with fail
    try go_ret
    exact HFIN.out _ B2.out
  | some p =>
    obtain ⟨rs, n⟩ := p
    obtain ⟨hg, h2, h3, h4, h5⟩ := unquote_facts hu
    have hcn := unquote_count hu
    have henc := encs_le rs
    rw [← Lib.size_eq] at h3
    obtain ⟨m, rfl⟩ : ∃ m, n = m + 1 := ⟨n - 1, by omega⟩
    rw [Nat.add_sub_cancel] at h4 h5
    have hm : m < q.size := by omega
    have hbm : q[m] = 34 := by
      have h2 : m < q.data.toList.length := by rw [← Lib.size_eq]; exact hm
      rw [← h4]
      simp [List.getD, List.getElem?_eq_getElem h2]
      rfl
    have y1 := (byte_y q[m] 34 34 rfl hbm).2
    obtain ⟨s, hse⟩ : ∃ s : ByteArray, s = ⟨(encs rs).toArray⟩ := ⟨_, rfl⟩
    have hsl : s.data.toList = encs rs := by rw [hse]
    have hss : s.size ≤ 4194304 := by rw [Lib.size_eq, hsl]; omega
    obtain ⟨a, ha⟩ : ∃ a : ByteArray, a = ⟨(quoteOf rs).toArray⟩ := ⟨_, rfl⟩
    have hal : a.data.toList = quoteOf rs := by rw [ha]
    have has : a.size ≤ 25165826 := by
      have := quoteOf_le rs hg
      rw [Lib.size_eq, hal]; omega
    have hU1 : ∀ w0, ETabs w0 → Calls Tryd.prog 7 #[.string q] w0 fun e w' => e = .returned (.tuple #[.string s, .int .i64 ((m + 1 : Nat) : Int), .int .i64 0]) ∧ Below w0.heap.size w0 w' := by
      intro w0 h0
      have := unq_yes q rs (m + 1) w0 h0 (by omega) hu
      rwa [← hse] at this
    have hQ : ∀ w0, ETabs w0 → Calls Tryd.prog 8 #[.string s] w0 fun e w' => e = .returned (.tuple #[.string a, .int .i64 0]) ∧ Below w0.heap.size w0 w' := by
      intro w0 h0
      have := quote_yes s rs w0 h0 (by omega) hg hsl
      unfold StrErr at this
      rwa [← ha] at this
    have hU2 : ∀ w0, ETabs w0 → Calls Tryd.prog 7 #[.string a] w0 fun e w' => e = .returned (.tuple #[.string s, .int .i64 (a.size : Nat), .int .i64 0]) ∧ Below w0.heap.size w0 w' := by
      intro w0 h0
      have hun : unquote a.data.toList = some (rs, a.size) := by
        have := unquote_quote rs hg []
        rw [List.append_nil, ← hal, ← Lib.size_eq] at this
        exact this
      have := unq_yes a rs a.size w0 h0 (by omega) hun
      rwa [← hse] at this
    have hU3 : ∀ w0, ETabs w0 → Calls Tryd.prog 7 #[.string (q.extract 0 m)] w0 fun e w' => ∃ c : Int, c ≠ 0 ∧ e = .returned (.tuple #[.string ⟨#[]⟩, .int .i64 0, .int .i64 c]) ∧ Below w0.heap.size w0 w' := by
      intro w0 h0
      exact unq_no (q.extract 0 m) w0 h0 (by simp; omega) (by rw [ext_front]; exact h5)
    have HU1 := Lib.hid hU1
    have HQ := Lib.hid hQ
    have HU2 := Lib.hid hU2
    have HU3 := Lib.hid hU3
    have m1 : 1 ≤ (m : Int) := by omega
    have m2 : (m : Int) < (q.size : Int) := by omega
    have m3 : (m : Int) + 1 ≤ (q.size : Int) := by omega
    clear hU1 hQ hU2 hU3 hu hg h2 h3 h4 h5 hcn henc hbm hse hsl ha hal hss
    go_enter Tryd.func3, Tryd.ntmps3
    go_wp2_with fail
    refine HE.out.mono ?_
    rintro e0 w1 ⟨rfl, hb1⟩
    have B1 := Lib.hid hb1
    clear hb1
    go_wp2_with fail
    refine (HU1.out w1 (HT.out.keep B1.out)).mono ?_
    rintro e0 w2 ⟨rfl, hb⟩
    have B2 := Lib.hid (B1.out.trans (hb.mono B1.out.size))
    clear hb
    go_wp2_with fail
    refine (HQ.out w2 (HT.out.keep B2.out)).mono ?_
    rintro e0 w3 ⟨rfl, hb⟩
    have B3 := Lib.hid (B2.out.trans (hb.mono B2.out.size))
    clear hb
    go_wp2_with fail
    refine (HU2.out w3 (HT.out.keep B3.out)).mono ?_
    rintro e0 w4 ⟨rfl, hb⟩
    have B4 := Lib.hid (B3.out.trans (hb.mono B3.out.size))
    clear hb
    go_wp2_with fail
    refine (HU3.out w4 (HT.out.keep B4.out)).mono ?_
    rintro e0 w5 ⟨c, hc, rfl, hb⟩
    have B5 := Lib.hid (B4.out.trans (hb.mono B4.out.size))
    have tc : (c != 0) = true := by rw [bne_iff_ne]; exact hc
    clear hb hc
    go_wp2_with fail
    try go_ret
    exact HFIN.out _ B5.out

set_option maxHeartbeats 8000000 in
theorem escKey_walk (s : ByteArray) (w : World) (hT : ETabs w) (hs : s.size ≤ 1048576) : Calls Tryd.prog 4 #[.string s] w (BoolB true w) := by
  have HE := Lib.hid (escs_any w)
  unfold BoolB at HE
  have HT := Lib.hid hT
  have hfin : ∀ w', Below w.heap.size w w' → BoolB true w (.returned (.bool true)) w' := fun w' h => ⟨rfl, h⟩
  have HFIN := Lib.hid hfin
  have hBA := fun w0 => bare_any s w0 (by omega)
  unfold BoolB at hBA
  generalize BoolB true w = POST at *
  clear hT hfin
  cases hb : bareOf s.data.toList with
  | true =>
    have hok := bare_ok hb
    have hK := fun w0 => key_bare s w0 (by omega) hb
    rw [hb] at hBA
    have hB : ∀ w0, ETabs w0 → Calls Tryd.prog 10 #[.string s] w0 fun e w' => ∃ i : Int, e = .returned (.int .i64 i) ∧ i < 0 ∧ Below w0.heap.size w0 w' := by
      intro w0 h0
      refine (bad_any s w0 h0.u (by omega)).mono ?_
      rintro e w' ⟨i, rfl, hi, hb⟩
      exact ⟨i, rfl, hi.2 hok, hb⟩
    have HB := Lib.hid hB
    have HK := Lib.hid hK
    have HBA := Lib.hid hBA
    clear hB hK hBA hok hb
    go_enter Tryd.func4, Tryd.ntmps4
    go_wp2_with fail
    refine HE.out.mono ?_
    rintro e0 w1 ⟨rfl, hb1⟩
    have B1 := Lib.hid hb1
    clear hb1
    go_wp2_with fail
    refine (HK.out w1).mono ?_
    rintro e0 w2 ⟨rfl, hb⟩
    have B2 := Lib.hid (B1.out.trans (hb.mono B1.out.size))
    clear hb
    go_wp2_with fail
    refine (HBA.out w2).mono ?_
    rintro e0 w3 ⟨rfl, hb⟩
    have B3 := Lib.hid (B2.out.trans (hb.mono B2.out.size))
    clear hb
    go_wp2_with fail
    refine (HB.out w3 (HT.out.keep B3.out)).mono ?_
    rintro e0 w4 ⟨i, rfl, hi, hb⟩
    have B4 := Lib.hid (B3.out.trans (hb.mono B3.out.size))
    have ti : decide (i < 0) = true := decide_eq_true hi
    clear hb
    go_wp2_with fail
    try go_ret
    exact HFIN.out _ B4.out
  | false =>
    rw [hb] at hBA
    have HBA := Lib.hid hBA
    by_cases hok : okText s.data.toList
    · obtain ⟨rs, hg, hl⟩ := hok
      obtain ⟨q, hq⟩ : ∃ q : ByteArray, q = ⟨(quoteOf rs).toArray⟩ := ⟨_, rfl⟩
      have hql : q.data.toList = quoteOf rs := by rw [hq]
      have hqs : q.size ≤ 6291458 := by
        have := quoteOf_le rs hg
        rw [Lib.size_eq, hql]
        rw [Lib.size_eq, hl] at hs
        omega
      have hK : ∀ w0, ETabs w0 → Calls Tryd.prog 9 #[.string s] w0 fun e w' => e = .returned (.tuple #[.string q, .int .i64 0]) ∧ Below w0.heap.size w0 w' := by
        intro w0 h0
        have := key_quote s (quoteOf rs) 0 w0 (by omega) h0 hb (fun w1 h1 => quote_yes s rs w1 h1 (by omega) hg hl)
        unfold StrErr at this
        rwa [← hq] at this
      have hse : (⟨(encs rs).toArray⟩ : ByteArray) = s := bytes_of (by rw [hl])
      have hU : ∀ w0, ETabs w0 → Calls Tryd.prog 7 #[.string q] w0 fun e w' => e = .returned (.tuple #[.string s, .int .i64 (q.size : Nat), .int .i64 0]) ∧ Below w0.heap.size w0 w' := by
        intro w0 h0
        have hun : unquote q.data.toList = some (rs, q.size) := by
          have := unquote_quote rs hg []
          rw [List.append_nil, ← hql, ← Lib.size_eq] at this
          exact this
        have := unq_yes q rs q.size w0 h0 (by omega) hun
        rwa [hse] at this
      have HK := Lib.hid hK
      have HU := Lib.hid hU
      clear hK hU hBA hb hq hql hse hg hl
      go_enter Tryd.func4, Tryd.ntmps4
      go_wp2_with fail
      refine HE.out.mono ?_
      rintro e0 w1 ⟨rfl, hb1⟩
      have B1 := Lib.hid hb1
      clear hb1
      go_wp2_with fail
      refine (HK.out w1 (HT.out.keep B1.out)).mono ?_
      rintro e0 w2 ⟨rfl, hb⟩
      have B2 := Lib.hid (B1.out.trans (hb.mono B1.out.size))
      clear hb
      go_wp2_with fail
      refine (HBA.out w2).mono ?_
      rintro e0 w3 ⟨rfl, hb⟩
      have B3 := Lib.hid (B2.out.trans (hb.mono B2.out.size))
      clear hb
      go_wp2_with fail
      refine (HU.out w3 (HT.out.keep B3.out)).mono ?_
      rintro e0 w4 ⟨rfl, hb⟩
      have B4 := Lib.hid (B3.out.trans (hb.mono B3.out.size))
      clear hb
      go_wp2_with fail
      try go_ret
      exact HFIN.out _ B4.out
    · have hK : ∀ w0, ETabs w0 → Calls Tryd.prog 9 #[.string s] w0 fun e w' => e = .returned (.tuple #[.string ⟨#[]⟩, .int .i64 3]) ∧ Below w0.heap.size w0 w' :=
        fun w0 h0 => key_quote s [] 3 w0 (by omega) h0 hb (fun w1 h1 => quote_no s w1 h1 (by omega) hok)
      have hB : ∀ w0, ETabs w0 → Calls Tryd.prog 10 #[.string s] w0 fun e w' => ∃ i : Int, e = .returned (.int .i64 i) ∧ 0 ≤ i ∧ Below w0.heap.size w0 w' := by
        intro w0 h0
        refine (bad_any s w0 h0.u (by omega)).mono ?_
        rintro e w' ⟨i, rfl, hi, hb⟩
        refine ⟨i, rfl, ?_, hb⟩
        rcases Int.lt_or_le i 0 with h | h
        · exact absurd (hi.1 h) hok
        · exact h
      have HB := Lib.hid hB
      have HK := Lib.hid hK
      clear hB hK hBA hb hok
      go_enter Tryd.func4, Tryd.ntmps4
      go_wp2_with fail
      refine HE.out.mono ?_
      rintro e0 w1 ⟨rfl, hb1⟩
      have B1 := Lib.hid hb1
      clear hb1
      go_wp2_with fail
      refine (HK.out w1 (HT.out.keep B1.out)).mono ?_
      rintro e0 w2 ⟨rfl, hb⟩
      have B2 := Lib.hid (B1.out.trans (hb.mono B1.out.size))
      clear hb
      go_wp2_with fail
      refine (HB.out w2 (HT.out.keep B2.out)).mono ?_
      rintro e0 w3 ⟨i, rfl, hi, hb⟩
      have B3 := Lib.hid (B2.out.trans (hb.mono B2.out.size))
      have ti : decide (0 ≤ i) = true := decide_eq_true hi
      clear hb
      go_wp2_with fail
      refine (HBA.out w3).mono ?_
      rintro e0 w4 ⟨rfl, hb⟩
      have B4 := Lib.hid (B3.out.trans (hb.mono B3.out.size))
      clear hb
      go_wp2_with fail
      try go_ret
      exact HFIN.out _ B4.out
end Go.Proofs.YtnkhnkklejakjaaDoor
