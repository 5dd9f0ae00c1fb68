/-
  Plain law: a round of the long division, and its end. No conditions.
-/
import Derived.Test.YtmieegcnfnoiiaaDoorLongLaw
import Derived.Test.YtmieegcnfnoiiaaDoorBigLen
namespace Go.Proofs.YtmieegcnfnoiiaaDoor
open Go.RowKit Gx

theorem bval_drop1 (l : List Int) (m : Nat) (h : m < l.length) : bval (l.drop m) = (l.getD m 0).toNat + 4294967296 * bval (l.drop (m + 1)) := by
  rw [List.drop_eq_getElem_cons h]
  simp [bval, List.getD, List.getElem?_eq_getElem h]

/-- what is under way: q holds the words from j on, u what is left -/
structure LInv (A B nv la k : Nat) (us qs : List Int) (j : Nat) : Prop where
  wu : Words us
  wq : Words qs
  lu : us.length = la + 1
  lq : qs.length = k
  tot : bval us + B * (4294967296 ^ j * bval (qs.drop j)) = A
  hi : bval (us.drop j) < B

/-- the divisor, its highest bit in its place -/
structure LDiv (B nv : Nat) (vs : List Int) : Prop where
  wv : Words vs
  lv : vs.length = nv
  two : 2 ≤ nv
  val : bval vs = B
  top : 2147483648 ≤ (vs.getD (nv - 1) 0).toNat

theorem LDiv.lt {B nv : Nat} {vs : List Int} (h : LDiv B nv vs) : B < 4294967296 ^ nv := by
  rw [← h.val, ← h.lv]; exact bval_lt vs h.wv
theorem pow_two (n : Nat) (h : 2 ≤ n) : 4294967296 ^ (n - 1) = 4294967296 ^ (n - 2) * 4294967296 ∧ 4294967296 ^ n = 4294967296 ^ (n - 2) * 4294967296 * 4294967296 := by
  obtain ⟨k, rfl⟩ : ∃ k, n = k + 2 := ⟨n - 2, by omega⟩
  simp only [Nat.add_sub_cancel, show k + 2 - 1 = k + 1 by omega, Nat.pow_succ]
  exact ⟨trivial, trivial⟩
theorem bval_take2 (l : List Int) (n : Nat) (h : 2 ≤ n) (hl : n ≤ l.length) : bval (l.take n) = bval (l.take (n - 2)) + 4294967296 ^ (n - 2) * ((l.getD (n - 2) 0).toNat + 4294967296 * (l.getD (n - 1) 0).toNat) := by
  have h1 := bval_take_succ l (n - 1)
  have h2 := bval_take_succ l (n - 2)
  rw [show n - 1 + 1 = n by omega] at h1
  rw [show n - 2 + 1 = n - 1 by omega] at h2
  rw [h1, h2, (pow_two n h).1, Nat.mul_add, Nat.add_assoc, Nat.mul_assoc]
theorem getD_drop (l : List Int) (j i : Nat) : (l.drop j).getD i 0 = l.getD (j + i) 0 := by simp [List.getD]

theorem round_win {A B nv la k j : Nat} {us qs vs : List Int} (hd : LDiv B nv vs) (h : LInv A B nv la k us qs (j + 1)) (hj : j + nv ≤ la) :
    win us j (nv + 1) = bval (us.drop j) ∧ win us j (nv + 1) < 4294967296 * B ∧ bval (us.drop (j + (nv + 1))) = 0 := by
  have h1 := bval_drop1 us j (by have := h.lu; omega)
  have h2 := words_getD h.wu j
  have h3 := h.hi
  have h4 := hd.lt
  have h5 : bval (us.drop j) < 4294967296 * B := by omega
  have h6 := bval_split (us.drop j) (nv + 1) (by have := h.lu; simp; omega)
  rw [List.drop_drop] at h6
  have h7 : 4294967296 * B < 4294967296 ^ (nv + 1) := by rw [Nat.pow_succ]; omega
  have h8 : bval (us.drop (j + (nv + 1))) = 0 := by
    rcases Nat.eq_zero_or_pos (bval (us.drop (j + (nv + 1)))) with h0 | h0
    · exact h0
    · have : 4294967296 ^ (nv + 1) * 1 ≤ 4294967296 ^ (nv + 1) * bval (us.drop (j + (nv + 1))) := Nat.mul_le_mul_left _ h0
      omega
  rw [h8, Nat.mul_zero, Nat.add_zero] at h6
  exact ⟨h6.symm, by rw [show win us j (nv + 1) = bval (us.drop j) from h6.symm]; exact h5, h8⟩

/-- what is known of the guess -/
theorem round_guess {A B nv la k j : Nat} {us qs vs : List Int} (hd : LDiv B nv vs) (h : LInv A B nv la k us qs (j + 1)) (hj : j + nv ≤ la) :
    Guess ((us.getD (j + nv) 0).toNat * 4294967296 + (us.getD (j + nv - 1) 0).toNat) (us.getD (j + nv - 2) 0).toNat (vs.getD (nv - 1) 0).toNat (vs.getD (nv - 2) 0).toNat (win us j (nv + 1)) B (4294967296 ^ (nv - 2)) := by
  have hn := hd.two
  have t1 := words_getD hd.wv (nv - 1)
  have t2 := words_getD hd.wv (nv - 2)
  have t3 := words_getD h.wu (j + nv - 2)
  have hlu := h.lu
  have hv := bval_take2 vs nv hn (by rw [hd.lv]; exact Nat.le_refl _)
  rw [List.take_of_length_le (by rw [hd.lv]; exact Nat.le_refl _), hd.val] at hv
  have hvl := bval_lt (vs.take (nv - 2)) (fun x hx => hd.wv x (List.mem_of_mem_take hx))
  rw [List.length_take, Nat.min_eq_left (by rw [hd.lv]; omega)] at hvl
  have hw := bval_take_succ (us.drop j) nv
  rw [bval_take2 (us.drop j) nv hn (by simp; omega), getD_drop, getD_drop, getD_drop] at hw
  have hwl := bval_lt ((us.drop j).take (nv - 2)) (fun x hx => h.wu x (List.mem_of_mem_drop (List.mem_of_mem_take hx)))
  rw [List.length_take, Nat.min_eq_left (by simp; omega)] at hwl
  rw [(pow_two nv hn).2] at hw
  have e1 : j + (nv - 2) = j + nv - 2 := by omega
  have e2 : j + (nv - 1) = j + nv - 1 := by omega
  rw [e1, e2] at hw
  obtain ⟨R, hR⟩ : ∃ R, R = 4294967296 ^ (nv - 2) := ⟨_, rfl⟩
  rw [← hR] at hv hvl hw hwl ⊢
  have hW : win us j (nv + 1) = bval ((us.drop j).take (nv + 1)) := rfl
  rw [← hW] at hw
  have hwb := (round_win hd h hj).2.1
  have htop := hd.top
  generalize win us j (nv + 1) = W at *
  obtain ⟨a, ha⟩ : ∃ a, a = (us.getD (j + nv) 0).toNat := ⟨_, rfl⟩
  obtain ⟨b, hb⟩ : ∃ a, a = (us.getD (j + nv - 1) 0).toNat := ⟨_, rfl⟩
  obtain ⟨c, hc⟩ : ∃ a, a = (us.getD (j + nv - 2) 0).toNat := ⟨_, rfl⟩
  obtain ⟨t, ht⟩ : ∃ a, a = (vs.getD (nv - 1) 0).toNat := ⟨_, rfl⟩
  obtain ⟨x, hx⟩ : ∃ a, a = (vs.getD (nv - 2) 0).toNat := ⟨_, rfl⟩
  obtain ⟨lo, hlo⟩ : ∃ a, a = bval ((us.drop j).take (nv - 2)) := ⟨_, rfl⟩
  obtain ⟨lv, hlv⟩ : ∃ a, a = bval (vs.take (nv - 2)) := ⟨_, rfl⟩
  have c1 : c < 4294967296 := by omega
  have t1' : t < 4294967296 := by omega
  have x1 : x < 4294967296 := by omega
  rw [← ha, ← hb, ← hc, ← hlo] at hw
  rw [← ht, ← hx, ← hlv] at hv
  rw [← hlo] at hwl
  rw [← hlv] at hvl
  rw [← ht] at htop
  rw [← ha, ← hb, ← hc, ← ht, ← hx]
  have ev : (t * 4294967296 + x) * R = R * (x + 4294967296 * t) := by rw [Nat.mul_comm, Nat.add_comm, Nat.mul_comm t]
  have ew : ((a * 4294967296 + b) * 4294967296 + c) * R = R * (c + 4294967296 * b) + R * 4294967296 * 4294967296 * a := by
    rw [Nat.mul_comm _ R, Nat.mul_assoc, Nat.mul_assoc, ← Nat.mul_add]
    congr 1
    omega
  refine ⟨?_, ?_, htop, t1', x1, c1, ?_, ?_, hwb⟩
  · rw [ev]; omega
  · rw [Nat.add_mul, ev]; omega
  · rw [ew]; omega
  · rw [Nat.add_mul, ew]; omega

/-- a round is over -/
theorem round_done {A B nv la k j qd : Nat} {us qs vs out : List Int} (hd : LDiv B nv vs) (h : LInv A B nv la k us qs (j + 1)) (hj : j + nv ≤ la) (hjk : j < k) (hs : SameOut us out j (nv + 1)) (ho : Words out)
    (hq : win out j (nv + 1) + qd * B = win us j (nv + 1)) (hr : win out j (nv + 1) < B) (hqd : qd < 4294967296) :
    LInv A B nv la k out (qs.set j (qd : Int)) j := by
  obtain ⟨w1, w2, w3⟩ := round_win hd h hj
  have hlu := h.lu
  have e1 : bval (out.drop j) = win out j (nv + 1) := by
    have h6 := bval_split (out.drop j) (nv + 1) (by have := hs.len; simp; omega)
    rw [List.drop_drop, hs.hi, w3, Nat.mul_zero, Nat.add_zero] at h6
    exact h6
  have s1 := bval_split us j (by omega)
  have s2 := bval_split out j (by have := hs.len; omega)
  rw [hs.lo, e1] at s2
  rw [← w1, ← hq] at s1
  refine ⟨ho, words_set h.wq j _ (by omega) (by omega), hs.len.trans hlu, by rw [List.length_set]; exact h.lq, ?_, by rw [e1]; exact hr⟩
  have e2 : bval ((qs.set j (qd : Int)).drop j) = qd + 4294967296 * bval (qs.drop (j + 1)) := by
    rw [bval_drop1 _ j (by rw [List.length_set, h.lq]; exact hjk), List.drop_set_of_lt (by omega)]
    congr 1
    simp [List.getD, List.getElem?_set, h.lq, hjk]
  have ht := h.tot
  rw [e2, s2]
  rw [s1, Nat.pow_succ] at ht
  rw [← ht, Nat.mul_add (4294967296 ^ j), Nat.mul_add (4294967296 ^ j), Nat.mul_add B]
  have e3 : B * (4294967296 ^ j * qd) = 4294967296 ^ j * (qd * B) := by
    rw [Nat.mul_comm B, Nat.mul_assoc]
  have e4 : 4294967296 ^ j * (4294967296 * bval (qs.drop (j + 1))) = 4294967296 ^ j * 4294967296 * bval (qs.drop (j + 1)) := by rw [Nat.mul_assoc]
  rw [e3, e4]
  omega

theorem quot_ok {W B O G : Nat} (hB : 0 < B) (h : O + G * B = W) (hg : W / B ≤ G) : O < B := by
  have h1 : W < W / B * B + B := by
    have := Nat.mod_lt W hB
    have h2 := Nat.div_add_mod W B
    rw [Nat.mul_comm] at h2
    omega
  have h3 : W / B * B ≤ G * B := Nat.mul_le_mul_right _ hg
  omega
theorem quot_back {W B O O2 G c2 P : Nat} (hB : 0 < B) (hO : O < P) (hO2 : O2 < P) (h1 : O + G * B = W + P) (h2 : O2 + P * c2 = O + B) (hc : c2 ≤ 1) (hg2 : G ≤ W / B + 1) : 1 ≤ G ∧ O2 + (G - 1) * B = W ∧ O2 < B := by
  have h3 : W / B * B ≤ W ∧ W < W / B * B + B := by
    have := Nat.mod_lt W hB
    have h2 := Nat.div_add_mod W B
    rw [Nat.mul_comm] at h2
    omega
  have hG : G = W / B + 1 := by
    rcases Nat.lt_or_ge (W / B) G with h | h
    · omega
    · have : G * B ≤ W / B * B := Nat.mul_le_mul_right _ h
      omega
  subst hG
  rw [Nat.add_mul, Nat.one_mul] at h1
  rw [Nat.add_sub_cancel]
  generalize W / B * B = M at *
  refine ⟨Nat.le_add_left _ _, ?_⟩
  rcases Nat.eq_zero_or_pos c2 with h0 | h0
  · subst h0; simp at h2; omega
  · have : c2 = 1 := by omega
    subst this
    simp at h2
    omega

theorem long_end {A B nv la k : Nat} {us qs : List Int} (h : LInv A B nv la k us qs 0) : bval qs = A / B ∧ bval us = A % B := by
  have h1 := h.tot
  have h2 := h.hi
  simp only [Nat.pow_zero, Nat.one_mul, List.drop_zero] at h1 h2
  rw [← h1]
  refine ⟨?_, ?_⟩
  · rw [Nat.add_comm, Nat.mul_add_div (by omega), Nat.div_eq_of_lt h2, Nat.add_zero]
  · rw [Nat.add_comm, Nat.mul_add_mod, Nat.mod_eq_of_lt h2]

/-- the divisor's highest bit is moved to its place -/
theorem div_start (b : Nat) (hb : b ≠ 0) (h2 : 2 ≤ (canon b).length) (x : Nat) (hx : (x : Int) = (canon b).getD ((canon b).length - 1) 0) :
    Lib.bitLen x ≤ 32 ∧ 1 ≤ Lib.bitLen x ∧ LDiv (b * 2 ^ (32 - Lib.bitLen x)) (canon b).length (canon (b * 2 ^ (32 - Lib.bitLen x))) := by
  obtain ⟨hp, y, hy, hy2, hbl⟩ := blen_last b hb
  have hxy : x = y := by
    have := hx.trans hy.symm
    omega
  subst hxy
  have h32 := bitLen_le32 x hy2
  obtain ⟨b1, b2, b3⟩ := blen_bounds b hb
  obtain ⟨nv, hnv⟩ : ∃ n, n = (canon b).length := ⟨_, rfl⟩
  rw [← hnv] at hp h2 hbl ⊢
  have hx0 : 1 ≤ Lib.bitLen x := by
    rcases Nat.eq_zero_or_pos (Lib.bitLen x) with h0 | h0
    · exfalso
      rw [h0, Nat.add_zero] at hbl
      have h3 := canon_len_le b (nv - 1) (by rw [pow32, ← hbl]; exact b3)
      omega
    · exact h0
  refine ⟨h32, hx0, ?_⟩
  generalize Lib.bitLen x = L at *
  have e1 : 2 ^ (32 * (nv - 1) + L) * 2 ^ (32 - L) = 4294967296 ^ nv := by
    rw [← Nat.pow_add, pow32]
    congr 1
    omega
  have e2 : 2 ^ (32 * (nv - 1) + L - 1) * 2 ^ (32 - L) = 2147483648 * 4294967296 ^ (nv - 1) := by
    rw [← Nat.pow_add, pow32, show (2147483648 : Nat) = 2 ^ 31 by decide, ← Nat.pow_add]
    congr 1
    omega
  rw [hbl] at b2 b3
  have c1 : b * 2 ^ (32 - L) < 4294967296 ^ nv := by rw [← e1]; exact Nat.mul_lt_mul_of_pos_right b3 (Nat.two_pow_pos _)
  have c2 : 2147483648 * 4294967296 ^ (nv - 1) ≤ b * 2 ^ (32 - L) := by rw [← e2]; exact Nat.mul_le_mul_right _ b2
  generalize b * 2 ^ (32 - L) = B at *
  have hB : B ≠ 0 := by
    have : 0 < 4294967296 ^ (nv - 1) := Nat.pow_pos (by decide)
    omega
  have l1 := canon_len_le B nv c1
  have l2 := canon_len_gt B hB
  have hlen : (canon B).length = nv := by
    rcases Nat.lt_or_ge (canon B).length nv with h | h
    · exfalso
      have h3 := bval_lt (canon B) (canon_words B)
      rw [bval_canon] at h3
      have h4 : 4294967296 ^ (canon B).length ≤ 4294967296 ^ (nv - 1) := Nat.pow_le_pow_right (by decide) (by omega)
      omega
    · omega
  refine ⟨canon_words B, hlen, h2, bval_canon B, ?_⟩
  have h5 := bval_take_succ (canon B) (nv - 1)
  rw [show nv - 1 + 1 = nv by omega, List.take_of_length_le (by omega), bval_canon] at h5
  have h6 := bval_lt ((canon B).take (nv - 1)) (fun x hx => canon_words B x (List.mem_of_mem_take hx))
  rw [List.length_take, Nat.min_eq_left (by omega)] at h6
  apply Classical.byContradiction
  intro hc
  have h7 : 4294967296 ^ (nv - 1) * ((canon B).getD (nv - 1) 0).toNat ≤ 4294967296 ^ (nv - 1) * 2147483647 := Nat.mul_le_mul_left _ (by omega)
  omega

/-- before the first round -/
theorem long_start {A B nv : Nat} {vs : List Int} (hd : LDiv B nv vs) (hAB : B ≤ A) :
    nv ≤ (canon A).length ∧ LInv A B nv (canon A).length ((canon A).length + 1 - nv) (canon A ++ [0]) (List.replicate ((canon A).length + 1 - nv) 0) ((canon A).length + 1 - nv) := by
  have hn := hd.two
  have htop := hd.top
  have h5 := bval_take_succ vs (nv - 1)
  rw [show nv - 1 + 1 = nv by omega, List.take_of_length_le (by rw [hd.lv]; exact Nat.le_refl _), hd.val] at h5
  have hB1 : 4294967296 ^ (nv - 1) ≤ B := by
    have : 4294967296 ^ (nv - 1) * 1 ≤ 4294967296 ^ (nv - 1) * (vs.getD (nv - 1) 0).toNat := Nat.mul_le_mul_left _ (by omega)
    omega
  have hle : nv ≤ (canon A).length := by
    apply Classical.byContradiction
    intro hc
    have h3 := bval_lt (canon A) (canon_words A)
    rw [bval_canon] at h3
    have h4 : 4294967296 ^ (canon A).length ≤ 4294967296 ^ (nv - 1) := Nat.pow_le_pow_right (by decide) (by omega)
    omega
  refine ⟨hle, ?_, ?_, by simp, by simp, ?_, ?_⟩
  · intro x hx
    rcases List.mem_append.1 hx with hx | hx
    · exact canon_words A x hx
    · simp at hx; omega
  · intro x hx
    have := (List.mem_replicate.1 hx).2; omega
  · rw [List.drop_eq_nil_of_le (by simp), bval_append, bval_canon]
    simp [bval]
  · rw [List.drop_append_of_le_length (by omega), bval_append]
    have h6 := bval_lt ((canon A).drop ((canon A).length + 1 - nv)) (fun x hx => canon_words A x (List.mem_of_mem_drop hx))
    rw [List.length_drop, show (canon A).length - ((canon A).length + 1 - nv) = nv - 1 by omega] at h6
    simp [bval]
    omega
end Go.Proofs.YtmieegcnfnoiiaaDoor
