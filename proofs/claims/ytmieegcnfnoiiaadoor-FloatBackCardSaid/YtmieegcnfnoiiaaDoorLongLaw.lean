/-
  Plain law: long division: a guess from two words is right, or one too great; windows of a list of words. No conditions.
-/
import Derived.Test.YtmieegcnfnoiiaaDoorBigSub
import Derived.Test.YtmieegcnfnoiiaaDoorRightLaw
namespace Go.Proofs.YtmieegcnfnoiiaaDoor
open Go.RowKit Gx

def win (l : List Int) (j k : Nat) : Nat := bval ((l.drop j).take k)
theorem win_split (l : List Int) (j k : Nat) (h : j + k ≤ l.length) : bval l = bval (l.take j) + 4294967296 ^ j * win l j k + 4294967296 ^ (j + k) * bval (l.drop (j + k)) := by
  have h1 := bval_split l j (by omega)
  have h2 := bval_split (l.drop j) k (by simp; omega)
  rw [h1, h2, List.drop_drop, Nat.pow_add, Nat.mul_add, ← Nat.mul_assoc, ← Nat.add_assoc]
  rfl
theorem win_lt (l : List Int) (hw : Words l) (j k : Nat) (h : j + k ≤ l.length) : win l j k < 4294967296 ^ k := by
  have := bval_lt ((l.drop j).take k) (fun x hx => hw x (List.mem_of_mem_drop (List.mem_of_mem_take hx)))
  have e : ((l.drop j).take k).length = k := by simp; omega
  rwa [e] at this

/-- the same but for a window -/
structure SameOut (us out : List Int) (j k : Nat) : Prop where
  len : out.length = us.length
  lo : out.take j = us.take j
  hi : out.drop (j + k) = us.drop (j + k)
theorem SameOut.refl (us : List Int) (j k : Nat) : SameOut us us j k := ⟨rfl, rfl, rfl⟩
theorem SameOut.trans {us vs ws : List Int} {j k : Nat} (h : SameOut us vs j k) (g : SameOut vs ws j k) : SameOut us ws j k := ⟨g.len.trans h.len, g.lo.trans h.lo, g.hi.trans h.hi⟩
theorem SameOut.set {us out : List Int} {j k : Nat} (h : SameOut us out j k) (i : Nat) (x : Int) (h1 : j ≤ i) (h2 : i < j + k) : SameOut us (out.set i x) j k :=
  ⟨by rw [List.length_set]; exact h.len, by rw [List.take_set_of_le h1]; exact h.lo, by rw [List.drop_set_of_lt h2]; exact h.hi⟩
/-- what changed the whole changed the window -/
theorem win_of (us out : List Int) (j k a b : Nat) (hs : SameOut us out j k) (hl : j + k ≤ us.length) (h : bval out + 4294967296 ^ j * a = bval us + 4294967296 ^ j * b) : win out j k + a = win us j k + b := by
  rw [win_split us j k hl, win_split out j k (by rw [hs.len]; exact hl), hs.lo, hs.hi] at h
  have hp : 0 < 4294967296 ^ j := Nat.pow_pos (by decide)
  have h2 : 4294967296 ^ j * (win out j k + a) = 4294967296 ^ j * (win us j k + b) := by
    rw [Nat.mul_add, Nat.mul_add]; omega
  exact Nat.eq_of_mul_eq_mul_left hp h2

theorem word_dm (s : Int) (h : 0 ≤ s) : 0 ≤ s % 4294967296 ∧ 0 ≤ s / 4294967296 ∧ s % 4294967296 + 4294967296 * (s / 4294967296) = s := by omega
theorem word_brw (x d bo : Int) : 0 ≤ (x - d - bo) % 4294967296 ∧ 0 ≤ borrowOf x d bo ∧ ((0 ≤ x ∧ x ≤ 4294967295 ∧ 0 ≤ d ∧ d ≤ 4294967295 ∧ 0 ≤ bo ∧ bo ≤ 1) → (x - d - bo) % 4294967296 + d + bo = x + 4294967296 * borrowOf x d bo) := by
  unfold borrowOf
  refine ⟨by omega, by split <;> omega, fun ⟨_, _, _, _, _, _⟩ => ?_⟩
  split <;> omega
theorem word_lt (s : Int) : s % 4294967296 ≤ 4294967295 := by omega

theorem take_step (out vs : List Int) (X j i : Nat) (g x y c bo : Int) (hg : 0 ≤ g) (hx : 0 ≤ x) (hx1 : x ≤ 4294967295) (hy : 0 ≤ y) (hc : 0 ≤ c) (hb : 0 ≤ bo) (hb1 : bo ≤ 1) (hi : j + i < out.length) (ex : x = out.getD (j + i) 0) (ey : y = vs.getD i 0)
    (h : bval out + 4294967296 ^ j * (g.toNat * bval (vs.take i)) = X + 4294967296 ^ (j + i) * (c.toNat + bo.toNat)) :
    bval (out.set (j + i) ((x - (c + g * y) % 4294967296 - bo) % 4294967296)) + 4294967296 ^ j * (g.toNat * bval (vs.take (i + 1))) =
      X + 4294967296 ^ (j + (i + 1)) * (((c + g * y) / 4294967296).toNat + (borrowOf x ((c + g * y) % 4294967296) bo).toNat) := by
  have hs := bval_set out (j + i) ((x - (c + g * y) % 4294967296 - bo) % 4294967296) hi
  rw [← ex] at hs
  rw [bval_take_succ, ← ey]
  obtain ⟨P, hP⟩ : ∃ P, P = 4294967296 ^ (j + i) := ⟨_, rfl⟩
  have e1 : 4294967296 ^ (j + (i + 1)) = P * 4294967296 := by rw [hP, ← Nat.add_assoc, Nat.pow_succ]
  have e2 : 4294967296 ^ j * (g.toNat * (bval (vs.take i) + 4294967296 ^ i * y.toNat)) = 4294967296 ^ j * (g.toNat * bval (vs.take i)) + P * (g.toNat * y.toNat) := by
    rw [hP, Nat.mul_add, Nat.mul_add, Nat.pow_add]
    congr 1
    rw [Nat.mul_assoc]
    congr 1
    rw [← Nat.mul_assoc, Nat.mul_comm g.toNat, Nat.mul_assoc]
  rw [e1, e2]
  rw [← hP] at h hs
  have egy : (g * y).toNat = g.toNat * y.toNat := by
    obtain ⟨a, rfl⟩ := Int.eq_ofNat_of_zero_le hg
    obtain ⟨b, rfl⟩ := Int.eq_ofNat_of_zero_le hy
    simp only [Int.toNat_natCast]
    rw [← Int.natCast_mul, Int.toNat_natCast]
  have hgy : 0 ≤ g * y := Int.mul_nonneg hg hy
  rw [← egy]
  generalize g * y = z at *
  obtain ⟨hd0, hq0, hdq⟩ := word_dm (c + z) (by omega)
  have hd1 := word_lt (c + z)
  generalize (c + z) % 4294967296 = d at *
  generalize (c + z) / 4294967296 = cr at *
  obtain ⟨hn0, hb0, hnb'⟩ := word_brw x d bo
  have hnb := hnb' ⟨hx, hx1, hd0, hd1, hb, hb1⟩
  clear hnb'
  generalize (x - d - bo) % 4294967296 = nw at *
  generalize borrowOf x d bo = b2 at *
  have e3 : nw.toNat + z.toNat + c.toNat + bo.toNat = x.toNat + 4294967296 * (cr.toNat + b2.toNat) := by omega
  have e4 : P * nw.toNat + P * z.toNat + P * (c.toNat + bo.toNat) = P * x.toNat + P * 4294967296 * (cr.toNat + b2.toNat) := by
    rw [Nat.mul_assoc, ← Nat.mul_add, ← Nat.mul_add, ← Nat.mul_add]
    congr 1
    omega
  clear e3 hdq hnb
  generalize 4294967296 ^ j * (g.toNat * bval (vs.take i)) = t1 at *
  generalize P * 4294967296 * (cr.toNat + b2.toNat) = t2 at *
  generalize P * (c.toNat + bo.toNat) = t3 at *
  generalize P * nw.toNat = t4 at *
  generalize P * z.toNat = t5 at *
  generalize P * x.toNat = t6 at *
  omega

theorem give_step (out vs : List Int) (X j i : Nat) (x y c : Int) (hx : 0 ≤ x) (hy : 0 ≤ y) (hc : 0 ≤ c) (hi : j + i < out.length) (ex : x = out.getD (j + i) 0) (ey : y = vs.getD i 0)
    (h : bval out + 4294967296 ^ (j + i) * c.toNat = X + 4294967296 ^ j * bval (vs.take i)) :
    bval (out.set (j + i) ((x + y + c) % 4294967296)) + 4294967296 ^ (j + (i + 1)) * ((x + y + c) / 4294967296).toNat = X + 4294967296 ^ j * bval (vs.take (i + 1)) := by
  have hs := bval_set out (j + i) ((x + y + c) % 4294967296) hi
  rw [← ex] at hs
  rw [bval_take_succ, ← ey]
  obtain ⟨P, hP⟩ : ∃ P, P = 4294967296 ^ (j + i) := ⟨_, rfl⟩
  have e1 : 4294967296 ^ (j + (i + 1)) = P * 4294967296 := by rw [hP, ← Nat.add_assoc, Nat.pow_succ]
  have e2 : 4294967296 ^ j * (bval (vs.take i) + 4294967296 ^ i * y.toNat) = 4294967296 ^ j * bval (vs.take i) + P * y.toNat := by
    rw [hP, Nat.mul_add, Nat.pow_add, Nat.mul_assoc]
  rw [e1, e2]
  rw [← hP] at h hs
  obtain ⟨hd0, hq0, hdq⟩ := word_dm (x + y + c) (by omega)
  generalize (x + y + c) % 4294967296 = d at *
  generalize (x + y + c) / 4294967296 = cr at *
  have e4 : P * d.toNat + P * 4294967296 * cr.toNat = P * x.toNat + P * y.toNat + P * c.toNat := by
    rw [Nat.mul_assoc, ← Nat.mul_add, ← Nat.mul_add, ← Nat.mul_add]
    congr 1
    omega
  clear hdq
  generalize 4294967296 ^ j * bval (vs.take i) = t1 at *
  generalize P * 4294967296 * cr.toNat = t2 at *
  generalize P * c.toNat = t3 at *
  generalize P * d.toNat = t4 at *
  generalize P * y.toNat = t5 at *
  generalize P * x.toNat = t6 at *
  omega

/-- KNUTH: what is known of a guess; two: the two first words; u2: the next word -/
structure Guess (two u2 top next W B R : Nat) : Prop where
  b1 : (top * 4294967296 + next) * R ≤ B
  b2 : B < (top * 4294967296 + next + 1) * R
  t1 : 2147483648 ≤ top
  t2 : top < 4294967296
  n2 : next < 4294967296
  ul : u2 < 4294967296
  w1 : (two * 4294967296 + u2) * R ≤ W
  w2 : W < (two * 4294967296 + u2 + 1) * R
  wb : W < 4294967296 * B

variable {two u2 top next W B R : Nat}
theorem Guess.r (h : Guess two u2 top next W B R) : 0 < R := by
  rcases Nat.eq_zero_or_pos R with h0 | h0
  · have := h.b2; rw [h0] at this; simp at this
  · exact h0
theorem Guess.bpos (h : Guess two u2 top next W B R) : 0 < B := by
  have := h.wb
  rcases Nat.eq_zero_or_pos B with h0 | h0
  · rw [h0] at this; simp at this
  · exact h0
theorem Guess.two_lt (h : Guess two u2 top next W B R) : two < (top + 1) * 4294967296 := by
  have h1 : (two * 4294967296 + u2) * R < (4294967296 * (top * 4294967296 + next + 1)) * R := by
    rw [Nat.mul_assoc]
    exact Nat.lt_of_le_of_lt h.w1 (Nat.lt_trans h.wb (Nat.mul_lt_mul_of_pos_left h.b2 (by decide)))
  have h2 := Nat.lt_of_mul_lt_mul_right h1
  have := h.n2
  have := h.t2
  omega
theorem Guess.first (h : Guess two u2 top next W B R) : W / B ≤ two / top := by
  have hB := h.bpos
  have ht := h.t1
  rw [Nat.le_div_iff_mul_le (by omega)]
  have h1 : W / B * B ≤ W := Nat.div_mul_le_self W B
  have h2 : W / B * top * 4294967296 * R ≤ W := by
    refine Nat.le_trans ?_ h1
    have e : W / B * top * 4294967296 * R = W / B * ((top * 4294967296) * R) := by
      rw [Nat.mul_assoc, Nat.mul_assoc, Nat.mul_assoc]
    rw [e]
    refine Nat.mul_le_mul_left _ (Nat.le_trans (Nat.mul_le_mul_right _ (Nat.le_add_right _ next)) h.b1)
  have h3 := Nat.lt_of_mul_lt_mul_right (Nat.lt_of_le_of_lt h2 h.w2)
  have := h.ul
  omega
/-- a guess that is too great by the third word -/
theorem Guess.less (h : Guess two u2 top next W B R) {g rest : Nat} (hg : g * top + rest = two) (hc : 4294967296 ≤ g ∨ rest * 4294967296 + u2 < g * next) : W / B < g := by
  have hB := h.bpos
  rw [Nat.div_lt_iff_lt_mul hB]
  rcases hc with hc | hc
  · exact Nat.lt_of_lt_of_le h.wb (Nat.mul_le_mul_right _ hc)
  · refine Nat.lt_of_lt_of_le h.w2 ?_
    have e : two * 4294967296 + u2 + 1 ≤ g * (top * 4294967296 + next) := by
      rw [Nat.mul_add, ← Nat.mul_assoc, ← hg, Nat.add_mul]
      omega
    refine Nat.le_trans (Nat.mul_le_mul_right R e) ?_
    rw [Nat.mul_assoc]
    exact Nat.mul_le_mul_left _ h.b1
/-- a guess that is not: it is right, or one too great -/
theorem Guess.most (h : Guess two u2 top next W B R) {g rest : Nat} (hg : g * top + rest = two) (h1 : g < 4294967296) (h2 : g * next ≤ rest * 4294967296 + u2) : g ≤ W / B + 1 := by
  have hB := h.bpos
  have e : g * (top * 4294967296 + next) ≤ two * 4294967296 + u2 := by
    rw [Nat.mul_add, ← Nat.mul_assoc, ← hg, Nat.add_mul]
    omega
  have e1 : g * B ≤ W + B := by
    have a1 : g * B ≤ g * ((top * 4294967296 + next + 1) * R) := Nat.mul_le_mul_left _ (Nat.le_of_lt h.b2)
    have a2 : g * ((top * 4294967296 + next + 1) * R) = g * (top * 4294967296 + next) * R + g * R := by
      rw [← Nat.mul_assoc, Nat.mul_add, Nat.mul_one, Nat.add_mul]
    have a3 : g * (top * 4294967296 + next) * R ≤ W := Nat.le_trans (Nat.mul_le_mul_right R e) h.w1
    have a4 : g * R ≤ B := by
      refine Nat.le_trans (Nat.mul_le_mul_right R ?_) h.b1
      have := h.t1
      omega
    omega
  have e2 : (g - 1) * B ≤ W := by
    rcases Nat.eq_zero_or_pos g with h0 | h0
    · rw [h0]; simp
    · obtain ⟨k, rfl⟩ : ∃ k, g = k + 1 := ⟨g - 1, by omega⟩
      rw [Nat.add_sub_cancel]
      rw [Nat.add_mul, Nat.one_mul] at e1
      omega
  have e3 := (Nat.le_div_iff_mul_le hB).2 e2
  omega
theorem Guess.small (h : Guess two u2 top next W B R) {g rest : Nat} (hg : g * top + rest = two) (hr : 4294967296 ≤ rest) : g < 4294967296 := by
  have h1 := h.two_lt
  have h2 := h.t1
  apply Classical.byContradiction
  intro hc
  have : 4294967296 * top ≤ g * top := Nat.mul_le_mul_right _ (by omega)
  rw [Nat.add_mul] at h1
  omega
/-- where the rest has become a word and more -/
theorem Guess.most2 (h : Guess two u2 top next W B R) {g rest : Nat} (hg : g * top + rest = two) (hr : 4294967296 ≤ rest) : g ≤ W / B + 1 := by
  have h1 := h.small hg hr
  refine h.most hg h1 ?_
  have h2 : g * next ≤ 4294967296 * 4294967296 := Nat.mul_le_mul (Nat.le_of_lt h1) (Nat.le_of_lt h.n2)
  have h3 : 4294967296 * 4294967296 ≤ rest * 4294967296 := Nat.mul_le_mul_right _ hr
  omega
theorem Guess.gmax (h : Guess two u2 top next W B R) {g rest : Nat} (hg : g * top + rest = two) : g ≤ 4294967298 := by
  have h1 := h.two_lt
  have h2 := h.t1
  apply Classical.byContradiction
  intro hc
  have h3 : 4294967299 * top ≤ g * top := Nat.mul_le_mul_right _ (by omega)
  have := h.t2
  rw [Nat.add_mul] at h1
  omega

end Go.Proofs.YtmieegcnfnoiiaaDoor
