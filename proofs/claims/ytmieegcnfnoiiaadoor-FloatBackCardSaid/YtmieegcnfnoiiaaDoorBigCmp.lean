/-
  The contract of big.Cmp. Condition: the slices have at most 2^30 words.
-/
import Derived.Test.YtmieegcnfnoiiaaDoorBigMul
namespace Go.Proofs.YtmieegcnfnoiiaaDoor
open Go.RowKit Gx
set_option maxRecDepth 100000

/-- -1, 0 or 1 -/
def cmpOf (a b : Nat) : Int := if a < b then -1 else if b < a then 1 else 0
theorem cmp_lt {a b : Nat} (h : a < b) : cmpOf a b = -1 := if_pos h
theorem cmp_gt {a b : Nat} (h : b < a) : cmpOf a b = 1 := by unfold cmpOf; rw [if_neg (by omega), if_pos h]
theorem cmp_eq {a b : Nat} (h : a = b) : cmpOf a b = 0 := by unfold cmpOf; rw [if_neg (by omega), if_neg (by omega)]

theorem canon_lt {a b : Nat} (h : (canon a).length < (canon b).length) : a < b := by
  rcases Nat.lt_or_ge a b with h1 | h1
  · exact h1
  · exfalso
    have hb : b ≠ 0 := by intro h0; subst h0; simp [canon_zero] at h
    have h2 := canon_len_gt b hb
    have h3 := bval_lt (canon a) (canon_words a)
    rw [bval_canon] at h3
    have h4 : 4294967296 ^ (canon a).length ≤ 4294967296 ^ ((canon b).length - 1) := Nat.pow_le_pow_right (by decide) (by omega)
    omega

/-- of two lists of one length, which part first (from the end) at m -/
theorem bval_part (A B : List Int) (hA : Words A) (hB : Words B) (hl : A.length = B.length) (m : Nat) (hm : m < A.length) (he : ∀ j, m < j → j < A.length → A.getD j 0 = B.getD j 0) (hlt : A.getD m 0 < B.getD m 0) :
    bval A < bval B := by
  have hd : A.drop (m + 1) = B.drop (m + 1) := by
    apply List.ext_getElem
    · simp [hl]
    · intro i h1 h2
      simp at h1 h2
      have := he (m + 1 + i) (by omega) (by omega)
      simpa [List.getD, List.getElem?_eq_getElem (show m + 1 + i < A.length by omega), List.getElem?_eq_getElem (show m + 1 + i < B.length by omega)] using this
  have ha : bval A = bval (A.take (m + 1)) + 4294967296 ^ (m + 1) * bval (A.drop (m + 1)) := by
    conv => lhs; rw [← List.take_append_drop (m + 1) A]
    rw [bval_append]; simp [Nat.min_eq_left (show m + 1 ≤ A.length by omega)]
  have hb : bval B = bval (B.take (m + 1)) + 4294967296 ^ (m + 1) * bval (B.drop (m + 1)) := by
    conv => lhs; rw [← List.take_append_drop (m + 1) B]
    rw [bval_append]; simp [Nat.min_eq_left (show m + 1 ≤ B.length by omega)]
  rw [ha, hb, hd, bval_take_succ, bval_take_succ]
  have h1 := bval_lt (A.take m) (fun x hx => hA x (List.mem_of_mem_take hx))
  simp only [List.length_take, Nat.min_eq_left (show m ≤ A.length by omega)] at h1
  have wa := words_getD hA m
  have wb := words_getD hB m
  have h2 : (A.getD m 0).toNat + 1 ≤ (B.getD m 0).toNat := by omega
  have h3 := Nat.mul_le_mul_left (4294967296 ^ m) h2
  rw [Nat.mul_add, Nat.mul_one] at h3
  omega

def CmpPost (a b : Nat) (w : World) (e : Ending) (w' : World) : Prop := e = .returned (.int .i64 (cmpOf a b)) ∧ Below w.heap.size w w'

set_option maxHeartbeats 1000000 in
theorem bigCmp_any (ad bd : Option Addr) (ca cb : Nat) (xs ys : List Int) (w : World) (h : Rd .u32 w ad ca xs) (g : Rd .u32 w bd cb ys) (hl : xs.length ≤ 1073741824) (hl2 : ys.length ≤ 1073741824) :
    Calls Tryd.prog 15 #[.slice ad xs.length ca, .slice bd ys.length cb] w (CmpPost (bval xs) (bval ys) w) := by
  have HA := Lib.hid (trimmed_any ad ca xs w h (by omega))
  have HB := Lib.hid (trimmed_any bd cb ys w g (by omega))
  have TA := h.trim
  have TB := g.trim
  have wx := words_of_rd h
  have wy := words_of_rd g
  clear h g
  have eA : bval (canon (bval xs)) = bval xs := bval_canon _
  have eB : bval (canon (bval ys)) = bval ys := bval_canon _
  have WA := canon_words (bval xs)
  have WB := canon_words (bval ys)
  have lA : (canon (bval xs)).length ≤ 1073741824 := by have := canon_len_le (bval xs) xs.length (bval_lt _ wx); omega
  have lB : (canon (bval ys)).length ≤ 1073741824 := by have := canon_len_le (bval ys) ys.length (bval_lt _ wy); omega
  clear wx wy
  obtain ⟨a, ha⟩ : ∃ a, a = bval xs := ⟨_, rfl⟩
  obtain ⟨b, hb⟩ : ∃ b, b = bval ys := ⟨_, rfl⟩
  unfold TrimmedPost at HA HB
  rw [← ha] at HA TA eA WA lA ⊢
  rw [← hb] at HB TB eB WB lB ⊢
  clear ha hb
  have hcl : (canon a).length < (canon b).length → a < b := canon_lt
  have hcg : (canon b).length < (canon a).length → b < a := canon_lt
  obtain ⟨A, hA⟩ : ∃ A, A = canon a := ⟨_, rfl⟩
  obtain ⟨B, hB⟩ : ∃ B, B = canon b := ⟨_, rfl⟩
  rw [← hA] at HA TA eA WA lA hcl hcg
  rw [← hB] at HB TB eB WB lB hcl hcg
  clear hA hB
  rcases Nat.lt_trichotomy A.length B.length with hc | hc | hc
  · have HP := Lib.hid (cmp_lt (hcl hc))
    have ht : decide ((A.length : Int) < (B.length : Int)) = true := by simpa using hc
    clear hcl hcg TA TB eA eB WA WB
    go_enter Tryd.func15, Tryd.ntmps15
    go_wp2_with fail
    refine HA.out.mono ?_
    rintro e w' ⟨rfl, rfl⟩
    go_wp2_with fail
    refine HB.out.mono ?_
    rintro e w' ⟨rfl, rfl⟩
    go_wp2
    go_ret
    exact ⟨by rw [HP.out]; rfl, Below.refl _ _⟩
  · have ht : decide ((A.length : Int) < (B.length : Int)) = false := by simp; omega
    have ht2 : decide ((B.length : Int) < (A.length : Int)) = false := by simp; omega
    have ht3 : decide (A.length < B.length) = false := by simp; omega
    have ht4 : decide (B.length < A.length) = false := by simp; omega
    have HPL : Hid (∀ m, m < A.length → (∀ j, m < j → j < A.length → A.getD j 0 = B.getD j 0) → A.getD m 0 < B.getD m 0 → a < b) := by
      intro m h1 h2 h3
      have := bval_part A B WA WB hc m h1 h2 h3
      omega
    have HPG : Hid (∀ m, m < A.length → (∀ j, m < j → j < A.length → A.getD j 0 = B.getD j 0) → B.getD m 0 < A.getD m 0 → b < a) := by
      intro m h1 h2 h3
      have := bval_part B A WB WA hc.symm m (by omega) (fun j q1 q2 => (h2 j q1 (by omega)).symm) h3
      omega
    have HPE : Hid ((∀ j, j < A.length → A.getD j 0 = B.getD j 0) → a = b) := by
      intro h2
      have : A = B := by
        apply List.ext_getElem hc
        intro i h3 h4
        have := h2 i h3
        simpa [List.getD, List.getElem?_eq_getElem h3, List.getElem?_eq_getElem h4] using this
      rw [← eA, ← eB, this]
    have HC := Lib.hid hc
    have TA := Lib.hid TA
    have TB := Lib.hid TB
    clear hcl hcg eA eB WA WB hc
    go_enter Tryd.func15, Tryd.ntmps15
    go_wp2_with fail
    refine HA.out.mono ?_
    rintro e w' ⟨rfl, rfl⟩
    go_wp2_with fail
    refine HB.out.mono ?_
    rintro e w' ⟨rfl, rfl⟩
    clear HA HB
    go_wp2
    clear ht ht2 ht3 ht4
    go_loopw [5] (fun i wr => ∃ m : Nat, m ≤ A.length ∧ i = .int .i64 ((m : Int) - 1) ∧ Hid (∀ j, m ≤ j → j < A.length → A.getD j 0 = B.getD j 0) ∧ Hid (∃ n, wr = w.drewN n))
      (fun i _ => (intOf i + 1).toNat)
    case atStart => exact ⟨A.length, Nat.le_refl _, rfl, fun j h1 h2 => by omega, 0, rfl⟩
    case round =>
      obtain ⟨m, hm, rfl, heq, hw⟩ := hrel
      by_cases hm0 : m = 0
      · subst hm0
        have hab := HPE.out (fun j hj => heq.out j (Nat.zero_le _) hj)
        have HP := Lib.hid (cmp_eq hab)
        clear hab
        go_wp2
        go_ret
        obtain ⟨n, e⟩ := hw.out
        exact ⟨by rw [HP.out]; rfl, by rw [e]; exact Gx.drewN_below _ _ _⟩
      · obtain ⟨b1, o1, rfl, -, hc1⟩ := TA.out.addr (by omega)
        obtain ⟨b2, o2, rfl, -, hc2⟩ := TB.out.addr (by have := HC.out; omega)
        have hd1 := hc1 (m - 1) (by omega)
        have hd2 := hc2 (m - 1) (by have := HC.out; omega)
        clear hc1 hc2
        obtain ⟨x, ex⟩ : ∃ x, x = A.getD (m - 1) 0 := ⟨_, rfl⟩
        obtain ⟨y, ey⟩ : ∃ y, y = B.getD (m - 1) 0 := ⟨_, rfl⟩
        rw [← ex] at hd1
        rw [← ey] at hd2
        have EX := Lib.hid ex
        have EY := Lib.hid ey
        clear ex ey
        have hf1 : wr.cell? ⟨b1, o1 + (m - 1), none⟩ = some (.int .u32 x) := by obtain ⟨n, e⟩ := hw.out; rw [e, World.cell?_drewN]; exact hd1
        have hf2 : wr.cell? ⟨b2, o2 + (m - 1), none⟩ = some (.int .u32 y) := by obtain ⟨n, e⟩ := hw.out; rw [e, World.cell?_drewN]; exact hd2
        have hmB : m ≤ B.length := by have := HC.out; omega
        clear hd1 hd2
        have hi0 : (0 : Int) ≤ (m : Int) - 1 := by omega
        have hi1 : (m : Int) - 1 < (A.length : Int) := by omega
        have hi2 : (m : Int) - 1 < (B.length : Int) := by omega
        have hi3 : ((m : Int) - 1).toNat = m - 1 := by omega
        rcases Int.lt_trichotomy x y with hxy | hxy | hxy
        · have hd : decide (x < y) = true := by simpa using hxy
          have HP := Lib.hid (cmp_lt (HPL.out (m - 1) (by omega) (fun j q1 q2 => heq.out j (by omega) q2) (by rw [← EX.out, ← EY.out]; exact hxy)))
          go_wp2
          go_quiet (fail)
          go_wp2
          go_ret
          obtain ⟨n, e⟩ := hw.out
          exact ⟨by rw [HP.out]; rfl, by rw [e]; repeat first | exact Gx.drewN_below _ _ _ | refine Below.trans ?_ (Gx.drewN_below _ _ _)⟩
        · subst hxy
          have hd : decide (x < x) = false := by simp
          go_wp2
          go_quiet (fail)
          go_wp2
          go_quiet (fail)
          go_wp2
          go_roundw
          case rel =>
            refine ⟨m - 1, by omega, ?_, fun j q1 q2 => ?_, ?_⟩
            · congr 1 <;> omega
            · by_cases hj : j = m - 1
              · rw [hj, ← EX.out, ← EY.out]
              · exact heq.out j (by omega) q2
            · obtain ⟨n, e⟩ := hw.out
              exact ⟨_, by rw [e, World.drewN_drewN]⟩
          case measure => simp [intOf]; omega
        · have hd : decide (x < y) = false := by simp; omega
          have hd' : decide (y < x) = true := by simpa using hxy
          have HP := Lib.hid (cmp_gt (HPG.out (m - 1) (by omega) (fun j q1 q2 => heq.out j (by omega) q2) (by rw [← EX.out, ← EY.out]; exact hxy)))
          go_wp2
          go_quiet (fail)
          go_wp2
          go_quiet (fail)
          go_wp2
          go_ret
          obtain ⟨n, e⟩ := hw.out
          exact ⟨by rw [HP.out]; rfl, by rw [e]; repeat first | exact Gx.drewN_below _ _ _ | refine Below.trans ?_ (Gx.drewN_below _ _ _)⟩
  · have HP := Lib.hid (cmp_gt (hcg hc))
    have ht : decide ((A.length : Int) < (B.length : Int)) = false := by simp; omega
    have ht2 : decide ((B.length : Int) < (A.length : Int)) = true := by simpa using hc
    clear hcl hcg TA TB eA eB WA WB
    go_enter Tryd.func15, Tryd.ntmps15
    go_wp2_with fail
    refine HA.out.mono ?_
    rintro e w' ⟨rfl, rfl⟩
    go_wp2_with fail
    refine HB.out.mono ?_
    rintro e w' ⟨rfl, rfl⟩
    go_wp2
    go_ret
    exact ⟨by rw [HP.out]; rfl, Below.refl _ _⟩
end Go.Proofs.YtmieegcnfnoiiaaDoor
