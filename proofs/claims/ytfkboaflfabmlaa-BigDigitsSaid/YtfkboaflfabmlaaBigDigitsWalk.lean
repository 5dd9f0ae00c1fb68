/-
  The walk of typecasekeep.BigDigits. No conditions.
-/
import Derived.Test.YtfkboaflfabmlaaBigRead
import Derived.Test.YtfkboaflfabmlaaBigLawsWalk
namespace Go.Proofs.Ytfkboaflfabmlaa
open Go.RowKit Gx

set_option maxHeartbeats 400000 in
theorem bigText_any (ad : Option Addr) (cap : Nat) (xs : List Int) (w : World) (h : Rd .u32 w ad cap xs) (hl : xs.length ≤ 1048576) :
    Calls Try.prog 8 #[.slice ad xs.length cap] w (TextPost (decText (bval xs)) w) := by
  by_cases h0 : bval xs = 0
  · have H := Lib.hid (trimmed_any ad cap xs w h (by omega))
    rw [h0]
    unfold TrimmedPost at H
    rw [h0] at H
    clear h h0
    go_enter Try.func8, Try.ntmps8
    go_wp2_with fail
    refine H.out.mono ?_
    rintro e w2 ⟨rfl, rfl⟩
    have hz : (canon 0).length = 0 := rfl
    rw [hz]
    clear hz
    go_wp2
    go_ret
    exact ⟨rfl, Below.refl _ _⟩
  · exact bigText_pos ad cap xs w h hl h0

theorem decVal_lt : ∀ (k : Nat) (s : List UInt8), s.length = k → (∀ b ∈ s, isDigit b = true) → decVal s < 10 ^ k := by
  intro k
  induction k with
  | zero => intro s hs _; rw [List.eq_nil_of_length_eq_zero hs]; decide
  | succ k ih =>
    intro s hs hd
    have hne : s ≠ [] := by intro e; subst e; simp at hs
    have e := List.dropLast_concat_getLast hne
    obtain ⟨r, b, rfl⟩ : ∃ r b, s = r ++ [b] := ⟨_, _, e.symm⟩
    have h1 := ih r (by simpa using hs) (fun x hx => hd x (by simp [hx]))
    have hb := hd b (by simp)
    simp [isDigit] at hb
    rw [decVal_snoc, Nat.pow_succ]
    omega
theorem decVal_len (s : List UInt8) (hd : ∀ b ∈ s, isDigit b = true) (hl : s.length ≤ 1000) : (canon (decVal s)).length ≤ 1048576 := by
  have h1 := decVal_lt s.length s rfl hd
  have h2 : 10 ^ s.length ≤ 4294967296 ^ s.length := Nat.pow_le_pow_left (by decide) _
  have := canon_len_le (decVal s) s.length (by omega)
  omega
theorem text_100 (xs : List Int) (hw : Words xs) (hl : xs.length ≤ 100) : (decText (bval xs)).length ≤ 1000 := by
  have h := dig_bound xs hw
  unfold decText
  by_cases h0 : bval xs = 0
  · simp [h0]
  · rw [if_neg h0]; simp; omega
theorem mk_size (l : List UInt8) : (⟨l.toArray⟩ : ByteArray).size = l.length := by
  show l.toArray.size = l.length
  simp
theorem mk_data (s : ByteArray) : (⟨s.data.toList.toArray⟩ : ByteArray) = s := by cases s; simp
theorem mk_list (l : List UInt8) : (⟨l.toArray⟩ : ByteArray).toList = l := by rw [Go.Lib.toList_data]

/-- a text that big.Text told, read -/
def ReadYes (n : Nat) (w : World) (e : Ending) (w' : World) : Prop :=
  ∃ ad cap, e = .returned (.tuple #[.slice ad (canon n).length cap, .int .i64 0]) ∧ Rd .u32 w' ad cap (canon n) ∧ Below w.heap.size w w'
theorem read_text (L0 : List Int) (T : ByteArray) (w : World) (hT : T = ⟨(decText (bval L0)).toArray⟩) (_hw : Words L0) (hl : (decText (bval L0)).length ≤ 1000) :
    Calls Try.prog 9 #[.string T] w (ReadYes (bval L0) w) := by
  have hd : T.data.toList = decText (bval L0) := by rw [hT]
  refine (bigRead_any T w).mono ?_
  rintro e w' (⟨hok, hsl, ad, cap, rfl, rd, hb⟩ | ⟨hno, c, hc, rfl, hb⟩)
  · rw [hd, decVal_text] at rd
    exact ⟨ad, cap, by rw [hd, decVal_text], rd, hb⟩
  · exfalso
    apply hno
    rw [hd]
    exact ⟨decOk_text _, hl⟩

set_option maxHeartbeats 4000000 in
theorem bigDigits_small (ad0 : Option Addr) (cap0 : Nat) (L0 : List Int) (ad1 : Option Addr) (cap1 : Nat) (L1 : List Int) (s : ByteArray) (w : World)
    (h0 : Rd .u32 w ad0 cap0 L0) (h1 : Rd .u32 w ad1 cap1 L1) (l0 : L0.length ≤ 100) (l1 : L1.length ≤ 100) :
    Calls Try.prog 3 #[.slice ad0 L0.length cap0, .slice ad1 L1.length cap1, .string s] w (TruePost w) := by
  have HW0 := Lib.hid (words_of_rd h0)
  have HW1 := Lib.hid (words_of_rd h1)
  have F0 : Hid (L0.length ≤ 1048576) := Nat.le_trans l0 (by decide)
  have R0 := Lib.hid h0
  have t0 : decide ((100 : Int) < (L0.length : Int)) = false := by simp; omega
  have X0 : Hid ((decText (bval L0)).length ≤ 1000) := text_100 L0 HW0.out l0
  clear h0
  have F1 : Hid (L1.length ≤ 1048576) := Nat.le_trans l1 (by decide)
  have R1 := Lib.hid h1
  have t1 : decide ((100 : Int) < (L1.length : Int)) = false := by simp; omega
  have X1 : Hid ((decText (bval L1)).length ≤ 1000) := text_100 L1 HW1.out l1
  clear h1
  go_enter Try.func3, Try.ntmps3
  go_wp2_with fail
  refine (bigs_any w).mono ?_
  rintro e w1 ⟨rfl, hb⟩
  replace R0 := Lib.hid (R0.out.keep hb)
  replace R1 := Lib.hid (R1.out.keep hb)
  have HB := Lib.hid hb
  clear hb
  go_wp2_with fail
  refine (bigText_any ad0 cap0 L0 w1 R0.out F0.out).mono ?_
  rintro e w2 ⟨rfl, hb⟩
  replace R0 := Lib.hid (R0.out.keep hb)
  replace R1 := Lib.hid (R1.out.keep hb)
  replace HB := Lib.hid (HB.out.trans (hb.mono HB.out.size))
  clear hb
  obtain ⟨T, hT⟩ : ∃ T : ByteArray, T = ⟨(decText (bval L0)).toArray⟩ := ⟨_, rfl⟩
  rw [← hT]
  have HT := Lib.hid hT
  clear hT
  go_wp2_with fail
  refine (bigText_any ad1 cap1 L1 w2 R1.out F1.out).mono ?_
  rintro e w3 ⟨rfl, hb⟩
  replace R0 := Lib.hid (R0.out.keep hb)
  replace R1 := Lib.hid (R1.out.keep hb)
  replace HB := Lib.hid (HB.out.trans (hb.mono HB.out.size))
  clear hb
  obtain ⟨U, hU⟩ : ∃ T : ByteArray, T = ⟨(decText (bval L1)).toArray⟩ := ⟨_, rfl⟩
  rw [← hU]
  have HU := Lib.hid hU
  clear hU
  go_wp2_with fail
  refine (read_text L0 T w3 HT.out HW0.out X0.out).mono ?_
  rintro e w4 ⟨adx, capx, rfl, rd, hb⟩
  replace R0 := Lib.hid (R0.out.keep hb)
  replace R1 := Lib.hid (R1.out.keep hb)
  replace HB := Lib.hid (HB.out.trans (hb.mono HB.out.size))
  clear hb
  have Rx := Lib.hid rd
  clear rd
  obtain ⟨Lx, eL⟩ : ∃ L, L = canon (bval L0) := ⟨_, rfl⟩
  rw [← eL] at Rx ⊢
  have Ex := Lib.hid eL
  clear eL
  go_wp2_with fail
  refine (bigTrim_any ad0 cap0 L0 w4 R0.out (Nat.le_trans F0.out (by decide))).mono ?_
  rintro e w5 ⟨adt, capt, rfl, rd, hb⟩
  replace R0 := Lib.hid (R0.out.keep hb)
  replace R1 := Lib.hid (R1.out.keep hb)
  replace Rx := Lib.hid (Rx.out.keep hb)
  replace HB := Lib.hid (HB.out.trans (hb.mono HB.out.size))
  clear hb
  obtain ⟨Lt, eL⟩ : ∃ L, L = canon (bval L0) := ⟨_, rfl⟩
  rw [← eL] at rd ⊢
  have Et := Lib.hid eL
  have Vt : Hid (bval Lt = bval L0) := by show _ = _; rw [eL, bval_canon]
  have Ft : Hid (Lt.length ≤ 1048576) := by show _ ≤ _; rw [eL]; exact Nat.le_trans (Fits.len (Fits.words HW0.out |>.mono l0)) (by decide)
  have Rt := Lib.hid rd
  clear eL rd
  go_wp2_with fail
  refine (equal_two adx adt capx capt Lx Lt w5 Rx.out Rt.out (by rw [Ex.out, Et.out])).mono ?_
  rintro e w6 ⟨rfl, hb⟩
  replace R0 := Lib.hid (R0.out.keep hb)
  replace R1 := Lib.hid (R1.out.keep hb)
  replace Rx := Lib.hid (Rx.out.keep hb)
  replace Rt := Lib.hid (Rt.out.keep hb)
  replace HB := Lib.hid (HB.out.trans (hb.mono HB.out.size))
  clear hb
  go_wp2_with fail
  refine (bigCmp_any ad0 ad1 cap0 cap1 L0 L1 w6 R0.out R1.out (Nat.le_trans F0.out (by decide)) (Nat.le_trans F1.out (by decide))).mono ?_
  rintro e w7 ⟨rfl, hb⟩
  replace R0 := Lib.hid (R0.out.keep hb)
  replace R1 := Lib.hid (R1.out.keep hb)
  replace Rx := Lib.hid (Rx.out.keep hb)
  replace Rt := Lib.hid (Rt.out.keep hb)
  replace HB := Lib.hid (HB.out.trans (hb.mono HB.out.size))
  clear hb
  have HS : Hid (T.size = (decText (bval L0)).length) := by show _ = _; rw [HT.out, mk_size]
  have HS1 : Hid (U.size = (decText (bval L1)).length) := by show _ = _; rw [HU.out, mk_size]
  have HL : Hid (T.toList = decText (bval L0)) := by show _ = _; rw [HT.out, mk_list]
  have HL1 : Hid (U.toList = decText (bval L1)) := by show _ = _; rw [HU.out, mk_list]
  have HO := Lib.hid (text_order (bval L1) (bval L0))
  have hcmp : Hid ((bval L0 < bval L1 ∧ cmpOf (bval L0) (bval L1) = -1) ∨ 0 ≤ cmpOf (bval L0) (bval L1)) := by
    rcases Nat.lt_or_ge (bval L0) (bval L1) with h | h
    · exact .inl ⟨h, cmp_lt h⟩
    · refine .inr ?_
      unfold cmpOf
      rw [if_neg (by omega)]
      split <;> omega
  obtain ⟨c, hc⟩ : ∃ c, c = cmpOf (bval L0) (bval L1) := ⟨_, rfl⟩
  rw [← hc] at hcmp ⊢
  clear hc
  clear Et Vt Ft Rt
  clear R0 R1 Rx Ex F0 F1 t0 t1 l0 l1
  rcases hcmp.out with ⟨hab, rfl⟩ | hc0
  · clear hcmp
    rcases HO.out hab with hlen | ⟨hlen, hless⟩
    · rw [← HS.out, ← HS1.out] at hlen
      have d1 : decide (U.size < T.size) = false := by simp; omega
      have d2 : decide ((U.size : Int) < (T.size : Int)) = false := by simp; omega
      have d3 : (T.size == U.size) = false := by simp; omega
      have d4 : ((T.size : Int) == (U.size : Int)) = false := by rw [beq_eq_false_iff_ne]; omega
      clear hlen hab HO HS HS1 HL HL1 HT HU
      go_wp2_with fail
      refine (bigRead_any s w7).mono ?_
      rintro e w20 (⟨hok, hsl, ady, capy, rfl, rdy, hb⟩ | ⟨hno, ec, hec, rfl, hb⟩)
      · have HB2 := Lib.hid (HB.out.trans (hb.mono HB.out.size))
        have HTX := Lib.hid (bigText_any ady capy _ w20 rdy (decVal_len _ hok.2.1 hsl))
        unfold TextPost at HTX
        rw [bval_canon, text_decVal _ hok, mk_data] at HTX
        have hss : (s.toList == s.toList) = true := by simp
        clear hb rdy hok hsl
        obtain ⟨M, hM⟩ : ∃ M, M = (canon (decVal s.data.toList)).length := ⟨_, rfl⟩
        rw [← hM] at HTX ⊢
        clear hM
        go_wp2_with fail
        refine HTX.out.mono ?_
        rintro e w21 ⟨rfl, hb⟩
        have HB3 := Lib.hid (HB2.out.trans (hb.mono HB2.out.size))
        clear hb
        go_wp2
        go_ret
        exact ⟨rfl, HB3.out⟩
      · have HB2 := Lib.hid (HB.out.trans (hb.mono HB.out.size))
        have h1 : (ec != 0) = true := by simpa using hec
        have h2 : (ec == 0) = false := by simpa using hec
        clear hb hno hec
        go_wp2
        go_ret
        exact ⟨rfl, HB2.out⟩
    · rw [← HS.out, ← HS1.out] at hlen
      rw [← HL.out, ← HL1.out] at hless
      have d1 : decide (U.size < T.size) = false := by simp; omega
      have d2 : decide ((U.size : Int) < (T.size : Int)) = false := by simp; omega
      have d3 : (T.size == U.size) = true := by simp; omega
      have d4 : ((T.size : Int) == (U.size : Int)) = true := by rw [beq_iff_eq]; omega
      clear hlen hab HO HS HS1 HL HL1 HT HU
      go_wp2_with fail
      refine (bigRead_any s w7).mono ?_
      rintro e w20 (⟨hok, hsl, ady, capy, rfl, rdy, hb⟩ | ⟨hno, ec, hec, rfl, hb⟩)
      · have HB2 := Lib.hid (HB.out.trans (hb.mono HB.out.size))
        have HTX := Lib.hid (bigText_any ady capy _ w20 rdy (decVal_len _ hok.2.1 hsl))
        unfold TextPost at HTX
        rw [bval_canon, text_decVal _ hok, mk_data] at HTX
        have hss : (s.toList == s.toList) = true := by simp
        clear hb rdy hok hsl
        obtain ⟨M, hM⟩ : ∃ M, M = (canon (decVal s.data.toList)).length := ⟨_, rfl⟩
        rw [← hM] at HTX ⊢
        clear hM
        go_wp2_with fail
        refine HTX.out.mono ?_
        rintro e w21 ⟨rfl, hb⟩
        have HB3 := Lib.hid (HB2.out.trans (hb.mono HB2.out.size))
        clear hb
        go_wp2
        go_ret
        exact ⟨rfl, HB3.out⟩
      · have HB2 := Lib.hid (HB.out.trans (hb.mono HB.out.size))
        have h1 : (ec != 0) = true := by simpa using hec
        have h2 : (ec == 0) = false := by simpa using hec
        clear hb hno hec
        go_wp2
        go_ret
        exact ⟨rfl, HB2.out⟩
  · have d1 : decide (c < 0) = false := by simp; omega
    clear HO HS HS1 HL HL1 HT HU hcmp
    go_wp2_with fail
    refine (bigRead_any s w7).mono ?_
    rintro e w20 (⟨hok, hsl, ady, capy, rfl, rdy, hb⟩ | ⟨hno, ec, hec, rfl, hb⟩)
    · have HB2 := Lib.hid (HB.out.trans (hb.mono HB.out.size))
      have HTX := Lib.hid (bigText_any ady capy _ w20 rdy (decVal_len _ hok.2.1 hsl))
      unfold TextPost at HTX
      rw [bval_canon, text_decVal _ hok, mk_data] at HTX
      have hss : (s.toList == s.toList) = true := by simp
      clear hb rdy hok hsl
      obtain ⟨M, hM⟩ : ∃ M, M = (canon (decVal s.data.toList)).length := ⟨_, rfl⟩
      rw [← hM] at HTX ⊢
      clear hM
      go_wp2_with fail
      refine HTX.out.mono ?_
      rintro e w21 ⟨rfl, hb⟩
      have HB3 := Lib.hid (HB2.out.trans (hb.mono HB2.out.size))
      clear hb
      go_wp2
      go_ret
      exact ⟨rfl, HB3.out⟩
    · have HB2 := Lib.hid (HB.out.trans (hb.mono HB.out.size))
      have h1 : (ec != 0) = true := by simpa using hec
      have h2 : (ec == 0) = false := by simpa using hec
      clear hb hno hec
      go_wp2
      go_ret
      exact ⟨rfl, HB2.out⟩

theorem bigDigits_large (ad0 : Option Addr) (cap0 : Nat) (L0 : List Int) (ad1 : Option Addr) (cap1 : Nat) (L1 : List Int) (s : ByteArray) (w : World)
    (h : 100 < L0.length ∨ 100 < L1.length) :
    Calls Try.prog 3 #[.slice ad0 L0.length cap0, .slice ad1 L1.length cap1, .string s] w (TruePost w) := by
  by_cases l0 : 100 < L0.length
  · have t0 : decide ((100 : Int) < (L0.length : Int)) = true := by simp; omega
    clear h
    go_enter Try.func3, Try.ntmps3
    go_wp2_with (go_at_call 7; refine (bigs_any w).mono ?_; rintro e w1 ⟨rfl, hb⟩)
    go_ret
    exact ⟨rfl, hb⟩
  have t0 : decide ((100 : Int) < (L0.length : Int)) = false := by simp; omega
  have l1 : 100 < L1.length := by omega
  have t1 : decide ((100 : Int) < (L1.length : Int)) = true := by simp; omega
  clear h
  go_enter Try.func3, Try.ntmps3
  go_wp2_with (go_at_call 7; refine (bigs_any w).mono ?_; rintro e w1 ⟨rfl, hb⟩)
  go_ret
  exact ⟨rfl, hb⟩

theorem bigDigits_walk (ad0 : Option Addr) (cap0 : Nat) (L0 : List Int) (ad1 : Option Addr) (cap1 : Nat) (L1 : List Int) (s : ByteArray) (w : World)
    (h0 : Rd .u32 w ad0 cap0 L0) (h1 : Rd .u32 w ad1 cap1 L1) :
    Calls Try.prog 3 #[.slice ad0 L0.length cap0, .slice ad1 L1.length cap1, .string s] w (TruePost w) := by
  by_cases h : 100 < L0.length ∨ 100 < L1.length
  · exact bigDigits_large ad0 cap0 L0 ad1 cap1 L1 s w h
  · exact bigDigits_small ad0 cap0 L0 ad1 cap1 L1 s w h0 h1 (by omega) (by omega)
end Go.Proofs.Ytfkboaflfabmlaa
