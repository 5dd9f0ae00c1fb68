/-
  The contract of big.Len: how many bits a number has. Conditions: at most 2^20 words.
-/
import Derived.Test.YtmieegcnfnoiiaaDoorBigTrim
import Derived.Test.YtmieegcnfnoiiaaDoorBigMul
import Derived.Test.YtmieegcnfnoiiaaDoorShelf
namespace Go.Proofs.YtmieegcnfnoiiaaDoor
open Go.RowKit Gx
set_option maxRecDepth 100000

theorem lenAux_bounds : ∀ (f x : Nat), x < 2 ^ f → x ≠ 0 → 1 ≤ Lib.bitLenAux f x ∧ 2 ^ (Lib.bitLenAux f x - 1) ≤ x ∧ x < 2 ^ Lib.bitLenAux f x
  | 0, x, h, h0 => by simp at h; omega
  | f + 1, x, h, h0 => by
    rw [Lib.bitLenAux, if_neg h0]
    by_cases h2 : x / 2 = 0
    · have hz : Lib.bitLenAux f 0 = 0 := by cases f <;> simp [Lib.bitLenAux]
      rw [h2, hz]
      have : x = 1 := by omega
      subst this
      simp
    · obtain ⟨a, b, c⟩ := lenAux_bounds f (x / 2) (by rw [Nat.pow_succ] at h; omega) h2
      generalize Lib.bitLenAux f (x / 2) = L at a b c ⊢
      obtain ⟨k, rfl⟩ : ∃ k, L = k + 1 := ⟨L - 1, by omega⟩
      simp only [Nat.add_sub_cancel] at b
      refine ⟨by omega, ?_, ?_⟩
      · rw [show 1 + (k + 1) - 1 = k + 1 by omega, Nat.pow_succ]; omega
      · rw [show 1 + (k + 1) = k + 1 + 1 by omega, Nat.pow_succ]; omega

/-- how many bits a number has -/
def blen (n : Nat) : Nat := if n = 0 then 0 else Nat.log2 n + 1

theorem blen_of (n L : Nat) (h1 : 1 ≤ L) (h2 : 2 ^ (L - 1) ≤ n) (h3 : n < 2 ^ L) : blen n = L := by
  have h0 : n ≠ 0 := by have := Nat.two_pow_pos (L - 1); omega
  unfold blen
  rw [if_neg h0]
  have a := (Nat.le_log2 h0).2 h2
  have b := (Nat.log2_lt h0).2 h3
  omega
theorem blen_bounds (n : Nat) (h0 : n ≠ 0) : 1 ≤ blen n ∧ 2 ^ (blen n - 1) ≤ n ∧ n < 2 ^ blen n := by
  unfold blen
  rw [if_neg h0]
  exact ⟨by omega, (Nat.le_log2 h0).1 (by omega), (Nat.log2_lt h0).1 (by omega)⟩
theorem blen_shift (n k : Nat) (h0 : n ≠ 0) : blen (n * 2 ^ k) = blen n + k := by
  obtain ⟨a, b, c⟩ := blen_bounds n h0
  refine blen_of _ _ (by omega) ?_ ?_
  · rw [show blen n + k - 1 = blen n - 1 + k by omega, Nat.pow_add]
    exact Nat.mul_le_mul_right _ b
  · rw [Nat.pow_add]
    exact Nat.mul_lt_mul_of_pos_right c (Nat.two_pow_pos k)
theorem blen_zero (n : Nat) : blen n = 0 ↔ n = 0 := by
  unfold blen
  by_cases h : n = 0
  · simp [h]
  · simp [h]

theorem pow32 (m : Nat) : 4294967296 ^ m = 2 ^ (32 * m) := by rw [Nat.pow_mul]

/-- from the last word -/
theorem blen_last (v : Nat) (h0 : v ≠ 0) : 0 < (canon v).length ∧ ∃ x : Nat, (x : Int) = (canon v).getD ((canon v).length - 1) 0 ∧ x < 4294967296 ∧ blen v = 32 * ((canon v).length - 1) + Lib.bitLen x := by
  have hp : 0 < (canon v).length := by rw [canon_pos v h0]; simp
  have hw := canon_words v
  have hb := bval_canon v
  have hg := canon_len_gt v h0
  obtain ⟨l, hl⟩ : ∃ l, l = canon v := ⟨_, rfl⟩
  rw [← hl] at hp hw hb hg ⊢
  refine ⟨hp, ?_⟩
  obtain ⟨b0, b1⟩ := words_getD hw (l.length - 1)
  have hs := bval_take_succ l (l.length - 1)
  rw [show l.length - 1 + 1 = l.length by omega, List.take_of_length_le (Nat.le_refl _), hb] at hs
  have hlt := bval_lt (l.take (l.length - 1)) (fun x hx => hw x (List.mem_of_mem_take hx))
  rw [List.length_take, Nat.min_eq_left (by omega)] at hlt
  obtain ⟨x, ex⟩ : ∃ x : Nat, (x : Int) = l.getD (l.length - 1) 0 := ⟨(l.getD (l.length - 1) 0).toNat, by omega⟩
  rw [← ex] at hs b1
  rw [Int.toNat_natCast] at hs
  refine ⟨x, ex, by omega, ?_⟩
  have hx0 : x ≠ 0 := by
    rintro rfl
    rw [Nat.mul_zero, Nat.add_zero] at hs
    omega
  obtain ⟨c1, c2, c3⟩ := lenAux_bounds 64 x (Nat.lt_of_lt_of_le (show x < 4294967296 by omega) (by decide)) hx0
  have e : Lib.bitLenAux 64 x = Lib.bitLen x := rfl
  rw [e] at c1 c2 c3
  generalize Lib.bitLen x = L at *
  rw [pow32] at hs hlt
  generalize l.length - 1 = m at *
  refine blen_of _ _ (by omega) ?_ ?_
  · rw [show 32 * m + L - 1 = 32 * m + (L - 1) by omega, Nat.pow_add, hs]
    exact Nat.le_trans (Nat.mul_le_mul_left _ c2) (Nat.le_add_left _ _)
  · rw [Nat.pow_add, hs]
    have h4 : 2 ^ (32 * m) * (x + 1) ≤ 2 ^ (32 * m) * 2 ^ L := Nat.mul_le_mul_left _ c3
    rw [Nat.mul_add, Nat.mul_one] at h4
    omega

theorem bitLen_le32 (x : Nat) (h : x < 4294967296) : Lib.bitLen x ≤ 32 := by
  by_cases h0 : x = 0
  · subst h0; decide
  obtain ⟨c1, c2, c3⟩ := lenAux_bounds 64 x (Nat.lt_of_lt_of_le h (by decide)) h0
  have e : Lib.bitLenAux 64 x = Lib.bitLen x := rfl
  rw [e] at c1 c2 c3
  have h5 : 2 ^ (Lib.bitLen x - 1) < 2 ^ 32 := Nat.lt_of_le_of_lt c2 (by simpa using h)
  have := (Nat.pow_lt_pow_iff_right (by decide)).1 h5
  omega

def LenPost (n : Nat) (w : World) (e : Ending) (w' : World) : Prop := e = .returned (.int .i64 (blen n : Nat)) ∧ w = w'

set_option maxHeartbeats 400000 in
theorem bigLen_any (ad : Option Addr) (ca : Nat) (xs : List Int) (w : World) (h : Rd .u32 w ad ca xs) (hl : xs.length ≤ 1048576) :
    Calls Tryd.prog 28 #[.slice ad xs.length ca] w (LenPost (bval xs) w) := by
  have hlen : (canon (bval xs)).length ≤ 1048576 := by
    obtain ⟨m, hm, e⟩ := canon_take xs (words_of_rd h)
    rw [e]; simp; omega
  have H := Lib.hid h
  have HT := Lib.hid h.trim
  clear h
  by_cases h0 : bval xs = 0
  · go_enter Tryd.func28, Tryd.ntmps28
    go_wp2_with fail
    refine (trimmed_any ad ca xs w H.out (by omega)).mono ?_
    rintro e w' ⟨rfl, rfl⟩
    have hz : (canon (bval xs)).length = 0 := by rw [h0]; rfl
    rw [hz]
    go_wp2
    go_ret
    exact ⟨by rw [h0]; rfl, rfl⟩
  · obtain ⟨hp, x, ex, hx, hbl⟩ := blen_last _ h0
    obtain ⟨b, o, hab, -, hc⟩ := HT.out.addr hp
    have hc1 := hc ((canon (bval xs)).length - 1) (by omega)
    rw [← ex] at hc1
    have h32 := bitLen_le32 x hx
    have HB := Lib.hid hbl
    have hne : ((canon (bval xs)).length == 0) = false := by simp; intro e; rw [e] at hp; simp at hp
    have hne2 : (((canon (bval xs)).length : Int) == 0) = false := by simp; intro e; rw [e] at hp; simp at hp
    clear hc ex hbl HT
    subst hab
    go_enter Tryd.func28, Tryd.ntmps28
    go_wp2_with fail
    refine (trimmed_any _ ca xs w H.out (by omega)).mono ?_
    rintro e w' ⟨rfl, rfl⟩
    obtain ⟨L, hL⟩ : ∃ L, L = (canon (bval xs)).length := ⟨_, rfl⟩
    rw [← hL] at hc1 hne hne2 hp hlen HB ⊢
    clear hL
    have i1 : (0 : Int) ≤ (L : Int) - 1 := by omega
    have i2 : (L : Int) - 1 < (L : Int) := by omega
    have i3 : ((L : Int) - 1).toNat = L - 1 := by omega
    go_wp2_with fail
    refine (Tryd.bits_Len32 (x : Int) w (by omega) (by omega)).mono ?_
    rintro e w' ⟨rfl, rfl⟩
    go_wp2
    go_ret
    refine ⟨?_, rfl⟩
    show Ending.returned (Value.int .i64 _) = _
    rw [HB.out]
    congr 2
    omega
end Go.Proofs.YtmieegcnfnoiiaaDoor
