/-
  The contracts of big.trimmed and slices.Equal at words. Condition: the slices have at most 2^40 words.
  The contracts of bits.Add32 and bits.Sub32. Conditions: words of 32 bits; what is carried is 0 or 1.
  The contracts of big.Trim and big.Add. Condition: the slices have at most 2^30 words.
  The contract of big.Mul. Condition: the slices have at most 2^20 words.
  The contract of big.Len: how many bits a number has. Conditions: at most 2^20 words.
  Plain law: the steps of the nearest fraction: which power of 2, and what follows. No conditions.
  The contract of big.Cmp. Condition: the slices have at most 2^30 words.
  The contracts of big.less and big.Sub. Condition: the slices have at most 2^20 words.
  The contract of bits.Div32. Condition: the upper word is less than the divisor.
-/
import Derived.Test.YtldhmfkojaekfaaGreatDoorProg
import Derived.WalkLawsBesides
import Derived.Deep.DeepFit
import Derived.Laws.BitsAllLaws
import Derived.Laws.Bits64b
import Derived.Test.YtldhmfkojaekfaaGreatDoorMeanGoodAllPartF
set_option linter.unusedVariables false
namespace Go.Proofs.YtldhmfkojaekfaaGreatDoor
open Go.RowKit Gx
set_option maxRecDepth 100000
theorem words_of_rd {w : World} {ad : Option Addr} {cap : Nat} {xs : List Int} (h : Rd .u32 w ad cap xs) : Words xs := by
  intro x hx
  have := h.wf x hx
  simp [Lit.wf, IntKind.min, IntKind.max, IntKind.signed, IntKind.bits] at this
  omega

theorem bval_zeros (l : List Int) (h : ∀ x ∈ l, x = 0) : bval l = 0 := by
  induction l with
  | nil => rfl
  | cons x l ih => simp [bval, ih (fun y hy => h y (by simp [hy])), h x (by simp)]

/-- where trimming ends -/
theorem trim_done (xs : List Int) (hw : Words xs) (m : Nat) (hm : m ≤ xs.length) (hz : ∀ j, m ≤ j → j < xs.length → xs.getD j 0 = 0) (hl : m = 0 ∨ xs.getD (m - 1) 0 ≠ 0) :
    canon (bval xs) = xs.take m := by
  have h1 : bval xs = bval (xs.take m) := by
    conv => lhs; rw [← List.take_append_drop m xs]
    rw [bval_append, bval_zeros (xs.drop m)]
    · simp
    · intro x hx
      obtain ⟨i, hi, rfl⟩ := List.getElem_of_mem hx
      rw [List.getElem_drop]
      have := hz (m + i) (by omega) (by simp at hi; omega)
      simpa [List.getD, List.getElem?_eq_getElem (show m + i < xs.length by simp at hi; omega)] using this
  rw [h1]
  refine canon_bval _ (fun x hx => hw x (List.mem_of_mem_take hx)) ?_
  intro x hx
  rcases hl with rfl | hl
  · simp at hx
  · rw [List.getLast?_eq_getElem?] at hx
    have hlen : (xs.take m).length = m := by simp; omega
    rw [hlen] at hx
    by_cases h0 : m = 0
    · subst h0; simp at hx
    · rw [List.getElem?_take] at hx
      rw [if_pos (by omega)] at hx
      intro e
      apply hl
      simp [List.getD, hx, e]

theorem canon_take (xs : List Int) (hw : Words xs) : ∃ m, m ≤ xs.length ∧ canon (bval xs) = xs.take m := by
  have h : ∀ n m, m ≤ xs.length → (∀ j, m ≤ j → j < xs.length → xs.getD j 0 = 0) → m ≤ n → ∃ m, m ≤ xs.length ∧ canon (bval xs) = xs.take m := by
    intro n
    induction n with
    | zero => intro m hm hz hn; exact ⟨m, hm, trim_done xs hw m hm hz (.inl (by omega))⟩
    | succ n ih =>
      intro m hm hz hn
      by_cases h0 : m = 0
      · exact ⟨m, hm, trim_done xs hw m hm hz (.inl h0)⟩
      by_cases h1 : xs.getD (m - 1) 0 = 0
      · refine ih (m - 1) (by omega) (fun j h2 h3 => ?_) (by omega)
        by_cases h4 : j = m - 1
        · rw [h4]; exact h1
        · exact hz j (by omega) h3
      · exact ⟨m, hm, trim_done xs hw m hm hz (.inr h1)⟩
  exact h xs.length xs.length (Nat.le_refl _) (fun j h1 h2 => by omega) (Nat.le_refl _)

theorem Gx.Rd.trim {w : World} {ad : Option Addr} {cap : Nat} {xs : List Int} (h : Rd .u32 w ad cap xs) : Rd .u32 w ad cap (canon (bval xs)) := by
  obtain ⟨m, hm, e⟩ := canon_take xs (words_of_rd h)
  rw [e]; exact h.front m hm

def TrimmedPost (ad : Option Addr) (cap : Nat) (xs : List Int) (w : World) (e : Ending) (w' : World) : Prop :=
  e = .returned (.slice ad (canon (bval xs)).length cap) ∧ w = w'

set_option maxHeartbeats 400000 in
theorem trimmed_any (ad : Option Addr) (cap : Nat) (xs : List Int) (w : World) (h : Rd .u32 w ad cap xs) (hl : xs.length ≤ 1099511627776) :
    Calls Tryz.prog 157 #[.slice ad xs.length cap] w (TrimmedPost ad cap xs w) := by
  have hw := words_of_rd h
  by_cases h0 : xs.length = 0
  · obtain rfl : xs = [] := List.eq_nil_of_length_eq_zero h0
    go_enter Tryz.func157, Tryz.ntmps157
    go_wp2
    refine wp_loop_rounds 1 ?_
    rw [rounds_succ]
    go_wp2
    go_ret
    exact ⟨rfl, rfl⟩
  obtain ⟨b, off, rfl, -, hc⟩ := h.addr (by omega)
  have hnc := h.ncap
  have h63 := h.cap63
  have HC := Lib.hid hc
  have HW := Lib.hid hw
  clear hc hw h h0
  go_enter Tryz.func157, Tryz.ntmps157
  go_wp2
  go_loop [0] (fun v => ∃ m : Nat, m ≤ xs.length ∧ v = .slice (some ⟨b, off, none⟩) m cap ∧ Hid (∀ j, m ≤ j → j < xs.length → xs.getD j 0 = 0))
    (fun v => match v with | .slice _ n _ => n | _ => 0)
  case atStart => exact ⟨xs.length, Nat.le_refl _, rfl, fun j h1 h2 => by omega⟩
  case round =>
    obtain ⟨m, hm, rfl, hz⟩ := hrel
    by_cases hm0 : m = 0
    · subst hm0
      go_wp2
      go_ret
      have := trim_done xs HW.out 0 (by omega) hz.out (.inl rfl)
      exact ⟨by rw [this]; rfl, rfl⟩
    · have hc1 := HC.out (m - 1) (by omega)
      obtain ⟨x, hx⟩ : ∃ x, x = xs.getD (m - 1) 0 := ⟨_, rfl⟩
      rw [← hx] at hc1
      have HX := Lib.hid hx; clear hx
      have hpos : (0 : Int) < (m : Int) := by omega
      by_cases hx0 : x = 0
      · subst hx0
        have hb : ((0 : Int) == 0) = true := rfl
        go_wp2
        go_round
        case rel =>
          refine ⟨m - 1, by omega, rfl, fun j h1 h2 => ?_⟩
          by_cases h4 : j = m - 1
          · rw [h4]; exact HX.out.symm
          · exact hz.out j (by omega) h2
        case measure => simp; omega
      · have hb : (x == 0) = false := by simpa using hx0
        go_wp2
        go_ret
        have := trim_done xs HW.out m hm hz.out (.inr (by rw [← HX.out]; exact hx0))
        refine ⟨?_, rfl⟩
        rw [this, List.length_take, Nat.min_eq_left hm]; rfl
end Go.Proofs.YtldhmfkojaekfaaGreatDoor
namespace Go.Proofs.YtldhmfkojaekfaaGreatDoor
open Go.RowKit Gx
set_option maxRecDepth 100000
def TwoWords (a b : Int) (w : World) (e : Ending) (w' : World) : Prop := e = .returned (.tuple #[.int .u32 a, .int .u32 b]) ∧ w = w'

def borrowOf (x y c : Int) : Int := if x < y + c then 1 else 0

theorem div31 (n : Nat) (h : n < 4294967296) : n / 2147483648 = if n.testBit 31 then 1 else 0 := by
  rw [Nat.testBit_eq_decide_div_mod_eq]
  have h2 : n / 2147483648 < 2 := by omega
  by_cases h1 : n / 2 ^ 31 % 2 = 1
  · simp only [h1, decide_true, if_true]
    have : (2 : Nat) ^ 31 = 2147483648 := by decide
    rw [this] at h1; omega
  · simp only [h1, decide_false]
    have : (2 : Nat) ^ 31 = 2147483648 := by decide
    rw [this] at h1; simp; omega
theorem top31 (n : Nat) (h : n < 4294967296) : n.testBit 31 = decide (2147483648 ≤ n) := by
  rw [Nat.testBit_eq_decide_div_mod_eq]
  have : (2 : Nat) ^ 31 = 2147483648 := by decide
  rw [this]
  by_cases h1 : 2147483648 ≤ n
  · simp [h1]; omega
  · simp [h1]; omega
theorem borrow_nat (x y c d : Nat) (hx : x < 4294967296) (hy : y < 4294967296) (hc : c ≤ 1) (hd : d < 4294967296) (e : (x + 8589934592 - y - c) % 4294967296 = d) :
    (((4294967295 ^^^ x) &&& y) ||| ((4294967295 ^^^ (x ^^^ y)) &&& d)) / 2147483648 = if x < y + c then 1 else 0 := by
  have h32 : (4294967296 : Nat) = 2 ^ 32 := by decide
  have hb : (((4294967295 ^^^ x) &&& y) ||| ((4294967295 ^^^ (x ^^^ y)) &&& d)) < 4294967296 := by
    rw [h32] at *
    exact Nat.or_lt_two_pow (Nat.lt_of_le_of_lt Nat.and_le_right hy) (Nat.lt_of_le_of_lt Nat.and_le_right hd)
  rw [div31 _ hb]
  have hm : Nat.testBit 4294967295 31 = true := by decide
  simp only [Nat.testBit_or, Nat.testBit_and, Nat.testBit_xor, hm, top31 x hx, top31 y hy, top31 d hd]
  by_cases h1 : 2147483648 ≤ x <;> by_cases h2 : 2147483648 ≤ y <;> by_cases h3 : 2147483648 ≤ d <;> by_cases h4 : x < y + c <;> simp [h1, h2, h3, h4] <;> omega

theorem borrow_word (x y c : Int) (hx : 0 ≤ x) (hx' : x ≤ 4294967295) (hy : 0 ≤ y) (hy' : y ≤ 4294967295) (hc : 0 ≤ c) (hc' : c ≤ 1) :
    bits BinOp.or IntKind.u32 (bits BinOp.and IntKind.u32 (bits BinOp.xor IntKind.u32 IntKind.u32.max x) y)
      (bits BinOp.and IntKind.u32 (bits BinOp.xor IntKind.u32 IntKind.u32.max (bits BinOp.xor IntKind.u32 x y)) ((x - y - c) % 4294967296)) / 2147483648 = borrowOf x y c := by
  obtain ⟨x, rfl⟩ := Int.eq_ofNat_of_zero_le hx
  obtain ⟨y, rfl⟩ := Int.eq_ofNat_of_zero_le hy
  obtain ⟨c, rfl⟩ := Int.eq_ofNat_of_zero_le hc
  obtain ⟨d, hd⟩ : ∃ d : Nat, d = (x + 8589934592 - y - c) % 4294967296 := ⟨_, rfl⟩
  have e : (((x : Int) - y - c) % 4294967296) = (d : Int) := by omega
  have em : IntKind.u32.max = ((4294967295 : Nat) : Int) := by decide
  have hd2 : d < 4294967296 := by omega
  have h32 : (4294967296 : Nat) = 2 ^ 32 := by decide
  have hM : (4294967295 : Nat) < 4294967296 := by decide
  have h1 : (4294967295 ^^^ x) < 4294967296 := by rw [h32]; exact Nat.xor_lt_two_pow (by decide) (by omega)
  have h2 : (x ^^^ y) < 4294967296 := by rw [h32]; exact Nat.xor_lt_two_pow (by omega) (by omega)
  have h3 : (4294967295 ^^^ (x ^^^ y)) < 4294967296 := by rw [h32]; exact Nat.xor_lt_two_pow (by decide) (by rw [← h32]; exact h2)
  have h4 : (4294967295 ^^^ x) &&& y < 4294967296 := Nat.lt_of_le_of_lt Nat.and_le_right (by omega)
  have h5 : (4294967295 ^^^ (x ^^^ y)) &&& d < 4294967296 := Nat.lt_of_le_of_lt Nat.and_le_right (by omega)
  rw [e, em, u32_xor_nat _ _ hM (by omega), u32_xor_nat _ _ (by omega) (by omega), u32_xor_nat _ _ hM h2, u32_and_nat _ _ h1 (by omega), u32_and_nat _ _ h3 hd2, u32_or_nat _ _ h4 h5]
  have := borrow_nat x y c d (by omega) (by omega) (by omega) hd2 hd.symm
  unfold borrowOf
  by_cases h : x < y + c
  · rw [if_pos h] at this; rw [if_pos (by omega)]; omega
  · rw [if_neg h] at this; rw [if_neg (by omega)]; omega

set_option maxHeartbeats 400000 in
theorem add32_any (x y c : Int) (w : World) (hx : 0 ≤ x) (hx' : x ≤ 4294967295) (hy : 0 ≤ y) (hy' : y ≤ 4294967295) (hc : 0 ≤ c) (hc' : c ≤ 1) :
    Calls Tryz.prog 182 #[.int .u32 x, .int .u32 y, .int .u32 c] w (TwoWords ((x + y + c) % 4294967296) ((x + y + c) / 4294967296) w) := by
  go_enter Tryz.func182, Tryz.ntmps182
  go_wp2
  go_ret2
  exact ⟨rfl, rfl⟩

set_option maxHeartbeats 400000 in
theorem sub32_any (x y c : Int) (w : World) (hx : 0 ≤ x) (hx' : x ≤ 4294967295) (hy : 0 ≤ y) (hy' : y ≤ 4294967295) (hc : 0 ≤ c) (hc' : c ≤ 1) :
    Calls Tryz.prog 203 #[.int .u32 x, .int .u32 y, .int .u32 c] w (TwoWords ((x - y - c) % 4294967296) (borrowOf x y c) w) := by
  have H := Lib.hid (borrow_word x y c hx hx' hy hy' hc hc')
  go_enter Tryz.func203, Tryz.ntmps203
  go_wp2
  go_ret2
  refine ⟨?_, rfl⟩
  rw [← H.out]; rfl
end Go.Proofs.YtldhmfkojaekfaaGreatDoor
namespace Go.Proofs.YtldhmfkojaekfaaGreatDoor
open Go.RowKit Gx
set_option maxRecDepth 100000
theorem Tryz.info_u32 : (Tryz.prog.info? 145).map (fun i => (i.zero, i.size, i.bytes)) = some (some (.int .u32 0), 1, 4) := by kernel_rfl

theorem bval_take_succ (l : List Int) (k : Nat) : bval (l.take (k + 1)) = bval (l.take k) + 4294967296 ^ k * (l.getD k 0).toNat := by
  by_cases h : k < l.length
  · rw [List.take_succ_eq_append_getElem h, bval_append]
    simp [bval, List.getD, List.getElem?_eq_getElem h, Nat.min_eq_left (Nat.le_of_lt h)]
  · rw [List.take_of_length_le (by omega), List.take_of_length_le (by omega)]
    simp [List.getD, List.getElem?_eq_none (show l.length ≤ k by omega)]
theorem words_getD {l : List Int} (h : Words l) (k : Nat) : 0 ≤ l.getD k 0 ∧ l.getD k 0 ≤ 4294967295 := by
  by_cases hk : k < l.length
  · have := h _ (List.getElem_mem hk)
    simp [List.getD, List.getElem?_eq_getElem hk]; omega
  · simp [List.getD, List.getElem?_eq_none (show l.length ≤ k by omega)]
theorem wf_words {l : List Int} (h : Words l) : ∀ x ∈ l, (Lit.int .u32 x).wf = true := by
  intro x hx
  have := h x hx
  simp [Lit.wf, IntKind.min, IntKind.max, IntKind.signed, IntKind.bits]
  omega

/-- a call that hands back the words of n, in memory that is old or its own; what was there is as it was -/
def WordsPost (n : Nat) (w : World) (e : Ending) (w' : World) : Prop :=
  ∃ ad cap, e = .returned (.slice ad (canon n).length cap) ∧ Rd .u32 w' ad cap (canon n) ∧ Below w.heap.size w w'

set_option maxHeartbeats 400000 in
theorem bigTrim_any (ad : Option Addr) (cap : Nat) (xs : List Int) (w : World) (h : Rd .u32 w ad cap xs) (hl : xs.length ≤ 1073741824) :
    Calls Tryz.prog 149 #[.slice ad xs.length cap] w (WordsPost (bval xs) w) := by
  have hlen : (canon (bval xs)).length ≤ 1073741824 := by
    obtain ⟨m, hm, e⟩ := canon_take xs (words_of_rd h)
    rw [e]; simp; omega
  obtain ⟨s1, s2, s3, s4⟩ := h.trim.src
  have S2 := Lib.hid s2
  have S3 := Lib.hid s3
  have S4 := Lib.hid s4
  have H := Lib.hid h
  clear s1 s2 s3 s4 h
  go_enter Tryz.func149, Tryz.ntmps149
  go_wp2_with (first
    | (go_at_call 157; refine (trimmed_any ad cap xs w H.out (by omega)).mono ?_; rintro e w' ⟨rfl, rfl⟩)
    | (at_builtin; refine Gx.wpList_append_all w rfl _ _ 169 rfl w.heap.size 145 (.int .u32 0) 1 4 Tryz.underlying169 Tryz.info_u32 rfl (by decide) _ 0 [] ad _ cap ((canon (bval xs)).map (Value.int .u32)) rfl rfl (World.ownsRow_nil _ _ _ _) (by simp) S2.out S3.out S4.out ?_ ?_ (Nat.le_refl _) ?_))
  · omega
  · omega
  intro v' w' hown hg _
  have hb : Below w.heap.size w w' := Gx.grown_below hg (Nat.le_refl _) (by simp [Value.ownBlock])
  obtain ⟨ad', cap', rfl, hr⟩ := Gx.Rd.own (k := .u32) (xs := canon (bval xs)) (by simpa using hown) (wf_words (canon_words _))
  clear hown hg
  go_wp2
  go_ret
  exact ⟨ad', cap', rfl, hr, hb⟩
end Go.Proofs.YtldhmfkojaekfaaGreatDoor
namespace Go.Proofs.YtldhmfkojaekfaaGreatDoor
open Go.RowKit Gx
set_option maxRecDepth 100000
theorem bval_set : ∀ (l : List Int) (j : Nat) (v : Int), j < l.length → bval (l.set j v) + 4294967296 ^ j * (l.getD j 0).toNat = bval l + 4294967296 ^ j * v.toNat
  | [], j, v, h => by simp at h
  | x :: l, 0, v, _ => by simp [bval]; omega
  | x :: l, j + 1, v, h => by
    have ih := bval_set l j v (by simpa using h)
    simp only [List.set_cons_succ, bval, Nat.pow_succ]
    have e1 : (x :: l).getD (j + 1) 0 = l.getD j 0 := by simp [List.getD]
    rw [e1]
    have h1 : 4294967296 ^ j * 4294967296 * (l.getD j 0).toNat = 4294967296 * (4294967296 ^ j * (l.getD j 0).toNat) := by
      rw [Nat.mul_comm (4294967296 ^ j) 4294967296, Nat.mul_assoc]
    have h2 : 4294967296 ^ j * 4294967296 * v.toNat = 4294967296 * (4294967296 ^ j * v.toNat) := by
      rw [Nat.mul_comm (4294967296 ^ j) 4294967296, Nat.mul_assoc]
    rw [h1, h2]
    omega
theorem words_set {l : List Int} (h : Words l) (j : Nat) (v : Int) (h0 : 0 ≤ v) (h1 : v ≤ 4294967295) : Words (l.set j v) := by
  intro x hx
  rcases List.mem_or_eq_of_mem_set hx with hx | rfl
  · exact h x hx
  · omega
theorem getD_set_ne (l : List Int) (i j : Nat) (v : Int) (h : i ≠ j) : (l.set i v).getD j 0 = l.getD j 0 := by
  simp [List.getD, List.getElem?_set, h]
theorem bval_replicate (n : Nat) : bval (List.replicate n 0) = 0 := bval_zeros _ (fun x hx => (List.mem_replicate.1 hx).2)

theorem madeCells_one (k : IntKind) (n : Nat) : (madeCells #[Value.int k 0] n).toList = (List.replicate n (0 : Int)).map (Value.int k) := by
  apply List.ext_getElem
  · simp [madeCells]
  · intro i h1 h2
    simp [madeCells, Nat.mod_one]

theorem mul_bound {x y : Int} (hx : 0 ≤ x) (hx' : x ≤ 4294967295) (hy : 0 ≤ y) (hy' : y ≤ 4294967295) : 0 ≤ x * y ∧ x * y ≤ 18446744065119617025 := by
  refine ⟨Int.mul_nonneg hx hy, ?_⟩
  have h1 : x * y ≤ 4294967295 * y := Int.mul_le_mul_of_nonneg_right hx' hy
  have h2 : 4294967295 * y ≤ 4294967295 * 4294967295 := Int.mul_le_mul_of_nonneg_left hy' (by decide)
  omega

/-- a round of the inner loop, in numbers -/
theorem mul_step (out : List Int) (p q i k : Nat) (x y c o : Int) (hx : 0 ≤ x) (hy : 0 ≤ y) (hc : 0 ≤ c) (ho : 0 ≤ o) (hi : i + k < out.length) (eo : o = out.getD (i + k) 0) (ys : List Int) (ey : y = ys.getD k 0)
    (h : bval out + 4294967296 ^ (i + k) * c.toNat = p + 4294967296 ^ i * (x.toNat * bval (ys.take k))) (hq : q = 4294967296 ^ (i + k)) :
    bval (out.set (i + k) ((c + (x * y + o)) % 4294967296)) + 4294967296 ^ (i + (k + 1)) * ((c + (x * y + o)) / 4294967296).toNat = p + 4294967296 ^ i * (x.toNat * bval (ys.take (k + 1))) := by
  have hs := bval_set out (i + k) ((c + (x * y + o)) % 4294967296) hi
  rw [← eo, ← hq] at hs
  rw [← hq] at h
  rw [bval_take_succ, ← ey]
  have e1 : 4294967296 ^ (i + (k + 1)) = q * 4294967296 := by rw [hq, ← Nat.add_assoc, Nat.pow_succ]
  have e2 : 4294967296 ^ i * (x.toNat * (bval (ys.take k) + 4294967296 ^ k * y.toNat)) = 4294967296 ^ i * (x.toNat * bval (ys.take k)) + q * (x.toNat * y.toNat) := by
    rw [hq, Nat.mul_add, Nat.mul_add, Nat.pow_add]
    congr 1
    rw [Nat.mul_assoc]
    congr 1
    rw [← Nat.mul_assoc, Nat.mul_comm x.toNat, Nat.mul_assoc]
  rw [e1, e2]
  have hp : 0 ≤ x * y := Int.mul_nonneg hx hy
  have exy : (x * y).toNat = x.toNat * y.toNat := by
    obtain ⟨a, rfl⟩ := Int.eq_ofNat_of_zero_le hx
    obtain ⟨b, rfl⟩ := Int.eq_ofNat_of_zero_le hy
    simp only [Int.toNat_natCast]
    rw [← Int.natCast_mul, Int.toNat_natCast]
  rw [← exy]
  generalize x * y = z at *
  have e3 : ((c + (z + o)) % 4294967296).toNat + 4294967296 * ((c + (z + o)) / 4294967296).toNat = c.toNat + z.toNat + o.toNat := by omega
  have e4 : q * ((c + (z + o)) % 4294967296).toNat + q * 4294967296 * ((c + (z + o)) / 4294967296).toNat = q * c.toNat + q * z.toNat + q * o.toNat := by
    rw [Nat.mul_assoc, ← Nat.mul_add, e3, Nat.mul_add, Nat.mul_add]
  omega

set_option maxHeartbeats 1000000 in
theorem bigMul_any (ad bd : Option Addr) (ca cb : Nat) (xs ys : List Int) (w : World) (h : Rd .u32 w ad ca xs) (g : Rd .u32 w bd cb ys) (hl : xs.length ≤ 1048576) (hl2 : ys.length ≤ 1048576) :
    Calls Tryz.prog 161 #[.slice ad xs.length ca, .slice bd ys.length cb] w (WordsPost (bval xs * bval ys) w) := by
  have hwx := words_of_rd h
  have hwy := words_of_rd g
  have H := Lib.hid h
  have G := Lib.hid g
  have HWX := Lib.hid hwx
  have HWY := Lib.hid hwy
  clear h g hwx hwy
  go_enter Tryz.func161, Tryz.ntmps161
  obtain ⟨i0, hi, hz0, hz1, hz2⟩ := info_parts Tryz.info_u32
  have HI := Lib.hid hi
  have HZ0 := Lib.hid hz0
  have HZ1 := Lib.hid hz1
  clear hi hz0 hz1
  go_wp2_with (first
    | (at_make; refine wpList_make_full _ rfl _ _ 169 rfl w.heap.size 145 i0 (.int .u32 0) 1 Tryz.underlying169 HI.out HZ0.out HZ1.out .i64 .i64 _ _ (xs.length + ys.length) rfl rfl (by omega) (by omega) (by rw [hz2]; omega) (by unfold maxLen; omega) (Nat.le_refl _) ?_))
  intro w1 hown hg
  have hb : Below w.heap.size w w1 := Gx.grown_below hg (Nat.le_refl _) (by simp)
  rw [madeCells_one] at hown
  clear hg hz2 HI HZ0 HZ1
  obtain ⟨n, hn⟩ : ∃ n, n = xs.length + ys.length := ⟨_, rfl⟩
  obtain ⟨gb, hgb⟩ : ∃ gb, gb = w.heap.size := ⟨_, rfl⟩
  rw [← hn] at hown ⊢
  rw [show Value.slice (some ⟨w.heap.size, 0, none⟩) n n = Value.slice (some ⟨gb, 0, none⟩) n n from by rw [hgb]] at hown ⊢
  have HN := Lib.hid hn; clear hn
  have HGB := Lib.hid hgb; clear hgb
  have hnb : n ≤ 2097152 := by have := HN.out; omega
  go_wp2
  go_loopw [19] (fun i wr => ∃ (k : Nat) (out : List Int), k ≤ xs.length ∧ i = .int .i64 k ∧
      wr.ownsRow w.heap.size 145 1 (.slice (some ⟨gb, 0, none⟩) n n) n (out.map (Value.int .u32)) ∧ Hid (out.length = n) ∧ Words out ∧ Hid (bval out = bval (xs.take k) * bval ys) ∧
      Hid (∀ j, k + ys.length ≤ j → out.getD j 0 = 0) ∧ Below w.heap.size w wr)
    (fun i _ => xs.length - (intOf i).toNat)
  case atStart =>
    refine ⟨0, List.replicate n 0, Nat.zero_le _, rfl, hown, by simp [Hid], fun x hx => ?_, ?_, fun j _ => ?_, hb⟩
    · have := (List.mem_replicate.1 hx).2; omega
    · show _ = _
      rw [bval_replicate]; simp [bval]
    · simp [List.getD, List.getElem?_replicate]
      split <;> rfl
  case round =>
    obtain ⟨i, out, hk, rfl, hown1, hol, how, hval, hzer, hb1⟩ := hrel
    have HOW := Lib.hid how
    clear how hown hb
    by_cases hkx : i < xs.length
    · obtain ⟨b1, o1, rfl, -, hcx⟩ := (H.out.keep hb1).addr (by omega)
      have hx := hcx i hkx
      clear hcx
      have bx := words_getD HWX.out i
      obtain ⟨x, ex⟩ : ∃ x, x = xs.getD i 0 := ⟨_, rfl⟩
      rw [← ex] at hx bx
      have EX := Lib.hid ex; clear ex
      obtain ⟨bx0, bx1⟩ := bx
      go_wp2
      obtain ⟨wo, rfl⟩ : ∃ wo : World, wo = wr := ⟨_, rfl⟩
      clear hx
      go_loopw [8, 26] (fun c j wr => ∃ (k : Nat) (cr : Int) (out2 : List Int), k ≤ ys.length ∧ j = .int .i64 k ∧ c = .int .u64 cr ∧ 0 ≤ cr ∧ cr ≤ 4294967295 ∧
          wr.ownsRow w.heap.size 145 1 (.slice (some ⟨gb, 0, none⟩) n n) n (out2.map (Value.int .u32)) ∧ Hid (out2.length = n) ∧ Words out2 ∧
          Hid (bval out2 + 4294967296 ^ (i + k) * cr.toNat = bval out + 4294967296 ^ i * (x.toNat * bval (ys.take k))) ∧ Hid (∀ j, i + ys.length ≤ j → out2.getD j 0 = 0) ∧ Below w.heap.size w wr)
        (fun _ j _ => ys.length - (intOf j).toNat)
      case atStart => exact ⟨0, 0, out, Nat.zero_le _, rfl, rfl, by omega, by omega, hown1, hol, HOW.out, by simp [Hid, bval], hzer.out, hb1⟩
      case round =>
        clear hown1 hb1 hol HOW
        obtain ⟨k, cr, out2, hk2, rfl, rfl, hc0, hc1, hown2, hol2, how2, hval2, hzer2, hb2⟩ := hrel
        have hol2' : out2.length = n := hol2.out
        have HOW2 := Lib.hid how2
        clear how2
        have hlen : i + ys.length < n + 1 := by have := HN.out; omega
        by_cases hky : k < ys.length
        · obtain ⟨b2, o2, rfl, -, hcy⟩ := (G.out.keep hb2).addr (by omega)
          have hy := hcy k hky
          clear hcy
          have by_ := words_getD HWY.out k
          obtain ⟨y, ey⟩ : ∃ y, y = ys.getD k 0 := ⟨_, rfl⟩
          rw [← ey] at hy by_
          have EY := Lib.hid ey; clear ey
          obtain ⟨by0, by1⟩ := by_
          have hin : i + k < n := by have := HN.out; omega
          have bo := words_getD HOW2.out (i + k)
          have hcell : wr.cell? ⟨gb, i + k, none⟩ = some (.int .u32 (out2.getD (i + k) 0)) := by
            rw [hown2.cellAt (i + k) (by omega)]
            simp [List.getD, List.getElem?_eq_getElem (show i + k < out2.length by omega)]
          have hfz : wr.frozen? ⟨gb, i + k, none⟩ = false := hown2.frozenAt (i + k)
          obtain ⟨o, eo⟩ : ∃ o, o = out2.getD (i + k) 0 := ⟨_, rfl⟩
          rw [← eo] at hcell bo
          have EO := Lib.hid eo; clear eo
          obtain ⟨bo0, bo1⟩ := bo
          obtain ⟨mb0, mb1⟩ := mul_bound bx0 bx1 by0 by1
          have HT := Lib.hid (mul_step out2 (bval out) _ i k x y cr o bx0 by0 hc0 bo0 (by omega) EO.out ys EY.out hval2.out rfl)
          clear hol2'
          obtain ⟨m, hm⟩ : ∃ m, m = x * y := ⟨_, rfl⟩
          have hmul : x * y = m := hm.symm
          rw [← hm] at mb0 mb1
          clear hm
          have hb3 := hb2.size
          have hgb : w.heap.size ≤ gb := by rw [HGB.out]; exact Nat.le_refl _
          have hst := hown2.stored (i + k) (.int .u32 ((cr + (m + o)) % 4294967296))
          have hbn : Below w.heap.size w (wr.setCell ⟨gb, i + k, none⟩ (.int .u32 ((cr + (m + o)) % 4294967296))) := hb2.grown hst.2 hb3 (fun q e => by cases e; exact hgb)
          have hon : (wr.setCell ⟨gb, i + k, none⟩ (.int .u32 ((cr + (m + o)) % 4294967296))).ownsRow w.heap.size 145 1 (.slice (some ⟨gb, 0, none⟩) n n) n ((out2.set (i + k) ((cr + (m + o)) % 4294967296)).map (Value.int .u32)) := by
            rw [List.map_set]; exact hst.1
          have HON := Lib.hid hon
          have HBN := Lib.hid hbn
          have hw3 := Lib.hid (words_set HOW2.out (i + k) ((cr + (m + o)) % 4294967296) (by omega) (by omega))
          have hl3 : Hid ((out2.set (i + k) ((cr + (m + o)) % 4294967296)).length = n) := by show _ = _; rw [List.length_set]; exact hol2.out
          have hz3 : Hid (∀ j, i + ys.length ≤ j → (out2.set (i + k) ((cr + (m + o)) % 4294967296)).getD j 0 = 0) := by
            intro j hj
            have := hzer2.out j hj
            rw [getD_set_ne _ _ _ _ (by omega)]; exact this
          rw [hmul] at HT
          clear hst hbn hon hown2
          go_wp2
          go_roundw
          case rel => exact ⟨k + 1, (cr + (m + o)) / 4294967296, out2.set (i + k) ((cr + (m + o)) % 4294967296), by omega, by go_num, rfl, by omega, by omega, HON.out, hl3, hw3.out, HT, hz3, HBN.out⟩
          case measure => simp [intOf]; omega
        · obtain rfl : k = ys.length := by omega
          have hin : i + ys.length < n := by have := HN.out; omega
          have hcell : wr.cell? ⟨gb, i + ys.length, none⟩ = some (.int .u32 0) := by
            rw [hown2.cellAt (i + ys.length) (by omega)]
            have := hzer2.out (i + ys.length) (Nat.le_refl _)
            simp [List.getD, List.getElem?_eq_getElem (show i + ys.length < out2.length by omega)] at this
            simp [List.getElem?_eq_getElem (show i + ys.length < out2.length by omega), this]
          have hfz : wr.frozen? ⟨gb, i + ys.length, none⟩ = false := hown2.frozenAt (i + ys.length)
          have hb3 := hb2.size
          have hgb : w.heap.size ≤ gb := by rw [HGB.out]; exact Nat.le_refl _
          have hst := hown2.stored (i + ys.length) (.int .u32 cr)
          have hbn : Below w.heap.size w (wr.setCell ⟨gb, i + ys.length, none⟩ (.int .u32 cr)) := hb2.grown hst.2 hb3 (fun q e => by cases e; exact hgb)
          have hon : (wr.setCell ⟨gb, i + ys.length, none⟩ (.int .u32 cr)).ownsRow w.heap.size 145 1 (.slice (some ⟨gb, 0, none⟩) n n) n ((out2.set (i + ys.length) cr).map (Value.int .u32)) := by
            rw [List.map_set]; exact hst.1
          have HON := Lib.hid hon
          have HBN := Lib.hid hbn
          have hw3 := Lib.hid (words_set HOW2.out (i + ys.length) cr hc0 hc1)
          have hl3 : Hid ((out2.set (i + ys.length) cr).length = n) := by show _ = _; rw [List.length_set]; exact hol2.out
          have hz3 : Hid (∀ j, i + 1 + ys.length ≤ j → (out2.set (i + ys.length) cr).getD j 0 = 0) := by
            intro j hj
            have := hzer2.out j (by omega)
            rw [getD_set_ne _ _ _ _ (by omega)]; exact this
          have hv3 : Hid (bval (out2.set (i + ys.length) cr) = bval (xs.take (i + 1)) * bval ys) := by
            show _ = _
            have h1 := bval_set out2 (i + ys.length) cr (by omega)
            rw [hzer2.out (i + ys.length) (Nat.le_refl _)] at h1
            have h2 := hval2.out
            rw [List.take_of_length_le (Nat.le_refl _), hval.out] at h2
            rw [bval_take_succ, ← EX.out, Nat.add_mul]
            simp only [Int.toNat_zero, Nat.mul_zero, Nat.add_zero] at h1
            rw [h1, h2, Nat.mul_assoc]
          clear hst hbn hon hown2 hol2'
          go_wp2
          go_roundw
          case rel => exact ⟨i + 1, out2.set (i + ys.length) cr, by omega, by go_num, HON.out, hl3, hw3.out, hv3, hz3, HBN.out⟩
          case measure => simp [intOf]; omega
    · obtain rfl : i = xs.length := by omega
      have hown3 := hown1
      obtain ⟨ad', cap', he, hr⟩ := Gx.Rd.own (k := .u32) (xs := out) hown3 (wf_words HOW.out)
      have hln := hol.out
      obtain ⟨rfl, -, rfl⟩ : some ⟨gb, 0, none⟩ = ad' ∧ n = out.length ∧ n = cap' := by simpa using he
      have HR := Lib.hid hr
      clear hr hown1 hown3 he
      have hfin : bval out = bval xs * bval ys := by
        rw [hval.out, List.take_of_length_le (Nat.le_refl _)]
      have HF := Lib.hid hfin; clear hfin
      clear HN hol
      subst hln
      go_wp2_with (first
        | (go_at_call 157; refine (trimmed_any (some ⟨gb, 0, none⟩) out.length out _ HR.out (by omega)).mono ?_; rintro e w' ⟨rfl, rfl⟩))
      go_ret
      refine ⟨some ⟨gb, 0, none⟩, out.length, ?_, ?_, hb1⟩
      · rw [← HF.out]; rfl
      · rw [← HF.out]; exact HR.out.trim
end Go.Proofs.YtldhmfkojaekfaaGreatDoor
namespace Go.Proofs.YtldhmfkojaekfaaGreatDoor
open Go.RowKit Gx
set_option maxRecDepth 100000
theorem lenAux_bounds : ∀ (f x : Nat), x < 2 ^ f → x ≠ 0 → 1 ≤ Lib.bitLenAux f x ∧ 2 ^ (Lib.bitLenAux f x - 1) ≤ x ∧ x < 2 ^ Lib.bitLenAux f x
  | 0, x, h, h0 => by simp at h; omega
  | f + 1, x, h, h0 => by
    rw [Lib.bitLenAux, if_neg h0]
    by_cases h2 : x / 2 = 0
    · have hz : Lib.bitLenAux f 0 = 0 := by cases f <;> simp [Lib.bitLenAux]
      rw [h2, hz]
      have : x = 1 := by omega
      subst this
      simp
    · obtain ⟨a, b, c⟩ := lenAux_bounds f (x / 2) (by rw [Nat.pow_succ] at h; omega) h2
      generalize Lib.bitLenAux f (x / 2) = L at a b c ⊢
      obtain ⟨k, rfl⟩ : ∃ k, L = k + 1 := ⟨L - 1, by omega⟩
      simp only [Nat.add_sub_cancel] at b
      refine ⟨by omega, ?_, ?_⟩
      · rw [show 1 + (k + 1) - 1 = k + 1 by omega, Nat.pow_succ]; omega
      · rw [show 1 + (k + 1) = k + 1 + 1 by omega, Nat.pow_succ]; omega

/-- how many bits a number has -/
def blen (n : Nat) : Nat := if n = 0 then 0 else Nat.log2 n + 1

theorem blen_of (n L : Nat) (h1 : 1 ≤ L) (h2 : 2 ^ (L - 1) ≤ n) (h3 : n < 2 ^ L) : blen n = L := by
  have h0 : n ≠ 0 := by have := Nat.two_pow_pos (L - 1); omega
  unfold blen
  rw [if_neg h0]
  have a := (Nat.le_log2 h0).2 h2
  have b := (Nat.log2_lt h0).2 h3
  omega
theorem blen_bounds (n : Nat) (h0 : n ≠ 0) : 1 ≤ blen n ∧ 2 ^ (blen n - 1) ≤ n ∧ n < 2 ^ blen n := by
  unfold blen
  rw [if_neg h0]
  exact ⟨by omega, (Nat.le_log2 h0).1 (by omega), (Nat.log2_lt h0).1 (by omega)⟩
theorem blen_zero (n : Nat) : blen n = 0 ↔ n = 0 := by
  unfold blen
  by_cases h : n = 0
  · simp [h]
  · simp [h]

theorem pow32 (m : Nat) : 4294967296 ^ m = 2 ^ (32 * m) := by rw [Nat.pow_mul]

/-- from the last word -/
theorem blen_last (v : Nat) (h0 : v ≠ 0) : 0 < (canon v).length ∧ ∃ x : Nat, (x : Int) = (canon v).getD ((canon v).length - 1) 0 ∧ x < 4294967296 ∧ blen v = 32 * ((canon v).length - 1) + Lib.bitLen x := by
  have hp : 0 < (canon v).length := by rw [canon_pos v h0]; simp
  have hw := canon_words v
  have hb := bval_canon v
  have hg := canon_len_gt v h0
  obtain ⟨l, hl⟩ : ∃ l, l = canon v := ⟨_, rfl⟩
  rw [← hl] at hp hw hb hg ⊢
  refine ⟨hp, ?_⟩
  obtain ⟨b0, b1⟩ := words_getD hw (l.length - 1)
  have hs := bval_take_succ l (l.length - 1)
  rw [show l.length - 1 + 1 = l.length by omega, List.take_of_length_le (Nat.le_refl _), hb] at hs
  have hlt := bval_lt (l.take (l.length - 1)) (fun x hx => hw x (List.mem_of_mem_take hx))
  rw [List.length_take, Nat.min_eq_left (by omega)] at hlt
  obtain ⟨x, ex⟩ : ∃ x : Nat, (x : Int) = l.getD (l.length - 1) 0 := ⟨(l.getD (l.length - 1) 0).toNat, by omega⟩
  rw [← ex] at hs b1
  rw [Int.toNat_natCast] at hs
  refine ⟨x, ex, by omega, ?_⟩
  have hx0 : x ≠ 0 := by
    rintro rfl
    rw [Nat.mul_zero, Nat.add_zero] at hs
    omega
  obtain ⟨c1, c2, c3⟩ := lenAux_bounds 64 x (Nat.lt_of_lt_of_le (show x < 4294967296 by omega) (by decide)) hx0
  have e : Lib.bitLenAux 64 x = Lib.bitLen x := rfl
  rw [e] at c1 c2 c3
  generalize Lib.bitLen x = L at *
  rw [pow32] at hs hlt
  generalize l.length - 1 = m at *
  refine blen_of _ _ (by omega) ?_ ?_
  · rw [show 32 * m + L - 1 = 32 * m + (L - 1) by omega, Nat.pow_add, hs]
    exact Nat.le_trans (Nat.mul_le_mul_left _ c2) (Nat.le_add_left _ _)
  · rw [Nat.pow_add, hs]
    have h4 : 2 ^ (32 * m) * (x + 1) ≤ 2 ^ (32 * m) * 2 ^ L := Nat.mul_le_mul_left _ c3
    rw [Nat.mul_add, Nat.mul_one] at h4
    omega

theorem bitLen_le32 (x : Nat) (h : x < 4294967296) : Lib.bitLen x ≤ 32 := by
  by_cases h0 : x = 0
  · subst h0; decide
  obtain ⟨c1, c2, c3⟩ := lenAux_bounds 64 x (Nat.lt_of_lt_of_le h (by decide)) h0
  have e : Lib.bitLenAux 64 x = Lib.bitLen x := rfl
  rw [e] at c1 c2 c3
  have h5 : 2 ^ (Lib.bitLen x - 1) < 2 ^ 32 := Nat.lt_of_le_of_lt c2 (by simpa using h)
  have := (Nat.pow_lt_pow_iff_right (by decide)).1 h5
  omega

def LenPost (n : Nat) (w : World) (e : Ending) (w' : World) : Prop := e = .returned (.int .i64 (blen n : Nat)) ∧ w = w'

set_option maxHeartbeats 400000 in
theorem bigLen_any (ad : Option Addr) (ca : Nat) (xs : List Int) (w : World) (h : Rd .u32 w ad ca xs) (hl : xs.length ≤ 1048576) :
    Calls Tryz.prog 147 #[.slice ad xs.length ca] w (LenPost (bval xs) w) := by
  have hlen : (canon (bval xs)).length ≤ 1048576 := by
    obtain ⟨m, hm, e⟩ := canon_take xs (words_of_rd h)
    rw [e]; simp; omega
  have H := Lib.hid h
  have HT := Lib.hid h.trim
  clear h
  by_cases h0 : bval xs = 0
  · go_enter Tryz.func147, Tryz.ntmps147
    go_wp2_with fail
    refine (trimmed_any ad ca xs w H.out (by omega)).mono ?_
    rintro e w' ⟨rfl, rfl⟩
    have hz : (canon (bval xs)).length = 0 := by rw [h0]; rfl
    rw [hz]
    go_wp2
    go_ret
    exact ⟨by rw [h0]; rfl, rfl⟩
  · obtain ⟨hp, x, ex, hx, hbl⟩ := blen_last _ h0
    obtain ⟨b, o, hab, -, hc⟩ := HT.out.addr hp
    have hc1 := hc ((canon (bval xs)).length - 1) (by omega)
    rw [← ex] at hc1
    have h32 := bitLen_le32 x hx
    have HB := Lib.hid hbl
    have hne : ((canon (bval xs)).length == 0) = false := by simp; intro e; rw [e] at hp; simp at hp
    have hne2 : (((canon (bval xs)).length : Int) == 0) = false := by simp; intro e; rw [e] at hp; simp at hp
    clear hc ex hbl HT
    subst hab
    go_enter Tryz.func147, Tryz.ntmps147
    go_wp2_with fail
    refine (trimmed_any _ ca xs w H.out (by omega)).mono ?_
    rintro e w' ⟨rfl, rfl⟩
    obtain ⟨L, hL⟩ : ∃ L, L = (canon (bval xs)).length := ⟨_, rfl⟩
    rw [← hL] at hc1 hne hne2 hp hlen HB ⊢
    clear hL
    have i1 : (0 : Int) ≤ (L : Int) - 1 := by omega
    have i2 : (L : Int) - 1 < (L : Int) := by omega
    have i3 : ((L : Int) - 1).toNat = L - 1 := by omega
    go_wp2_with fail
    refine (Tryz.bits_Len32 (x : Int) w (by omega) (by omega)).mono ?_
    rintro e w' ⟨rfl, rfl⟩
    go_wp2
    go_ret
    refine ⟨?_, rfl⟩
    show Ending.returned (Value.int .i64 _) = _
    rw [HB.out]
    congr 2
    omega
end Go.Proofs.YtldhmfkojaekfaaGreatDoor
namespace Go.Proofs.YtldhmfkojaekfaaGreatDoor
theorem near_firstK (K : Nat) {num den E : Nat} (hn : num ≠ 0) (hd : den ≠ 0) (h1 : blen num + K ≤ E + blen den + 54) (h2 : E = 0 ∨ blen num + K = E + blen den + 54) :
    num * 2 ^ K < 2 ^ 55 * (den * 2 ^ E) ∧ (E = 0 ∨ 2 ^ 53 * (den * 2 ^ E) < num * 2 ^ K) := by
  obtain ⟨n1, n2, n3⟩ := blen_bounds num hn
  obtain ⟨d1, d2, d3⟩ := blen_bounds den hd
  generalize blen num = ln at *
  generalize blen den = ld at *
  constructor
  · have a1 : num * 2 ^ K < 2 ^ ln * 2 ^ K := Nat.mul_lt_mul_of_pos_right n3 (Nat.pow_pos (by decide))
    have a2 : 2 ^ ln * 2 ^ K ≤ 2 ^ 55 * (2 ^ (ld - 1) * 2 ^ E) := by
      rw [← Nat.pow_add, ← Nat.pow_add, ← Nat.pow_add]
      exact Nat.pow_le_pow_right (by decide) (by omega)
    have a3 : 2 ^ 55 * (2 ^ (ld - 1) * 2 ^ E) ≤ 2 ^ 55 * (den * 2 ^ E) := Nat.mul_le_mul_left _ (Nat.mul_le_mul_right _ d2)
    exact Nat.lt_of_lt_of_le a1 (Nat.le_trans a2 a3)
  · rcases h2 with h2 | h2
    · exact .inl h2
    · right
      have a1 : 2 ^ 53 * (den * 2 ^ E) < 2 ^ 53 * (2 ^ ld * 2 ^ E) := Nat.mul_lt_mul_of_pos_left (Nat.mul_lt_mul_of_pos_right d3 (Nat.two_pow_pos _)) (Nat.two_pow_pos _)
      have a2 : 2 ^ 53 * (2 ^ ld * 2 ^ E) = 2 ^ (ln - 1) * 2 ^ K := by
        rw [← Nat.pow_add, ← Nat.pow_add, ← Nat.pow_add]
        congr 1
        omega
      rw [a2] at a1
      exact Nat.lt_of_lt_of_le a1 (Nat.mul_le_mul_right _ n2)

theorem near_first {num den E : Nat} (hn : num ≠ 0) (hd : den ≠ 0) (h1 : blen num + 1021 ≤ E + blen den) (h2 : E = 0 ∨ blen num + 1021 = E + blen den) :
    num * 2 ^ 1075 < 2 ^ 55 * (den * 2 ^ E) ∧ (E = 0 ∨ 2 ^ 53 * (den * 2 ^ E) < num * 2 ^ 1075) :=
  near_firstK 1075 hn hd (by omega) (by omega)

/-- rounded to steps of 2^E: what is known of n -/
structure Step (Y T n : Nat) : Prop where
  lo : n = 0 ∨ (2 * n - 1) * T < Y ∨ ((2 * n - 1) * T = Y ∧ n % 2 = 0)
  hi : Y < (2 * n + 1) * T ∨ (Y = (2 * n + 1) * T ∧ n % 2 = 0)
theorem Step.up {Y T n : Nat} (h : Step Y T n) : Y ≤ (2 * n + 1) * T := by rcases h.hi with h | h; omega; omega
theorem Step.dn {Y T n : Nat} (h : Step Y T n) : (2 * n - 1) * T ≤ Y := by
  rcases h.lo with h | h | h
  · subst h; simp
  · omega
  · omega
theorem Step.top {Y T n K : Nat} (h : Step Y T n) (hT : 0 < T) (ha : Y < 2 * K * T) : n ≤ K := by
  apply Classical.byContradiction
  intro hc
  have h1 : 2 * K * T ≤ (2 * n - 1) * T := Nat.mul_le_mul_right _ (by omega)
  have := h.dn
  omega
theorem Step.bot {Y T n K : Nat} (h : Step Y T n) (hT : 0 < T) (ha : 2 * K * T < Y) : K ≤ n := by
  apply Classical.byContradiction
  intro hc
  have h1 : (2 * n + 1) * T ≤ 2 * K * T := Nat.mul_le_mul_right _ (by omega)
  have := h.up
  omega

variable {Y D E n m : Nat}
theorem near_hiE (hD : 0 < D) (hE : 2046 ≤ E) (hb : 2 * 4503599627370496 * (D * 2 ^ E) < Y) : Rnd Y D 9218868437227405312 := by
  refine ⟨Nat.le_refl _, .inr (.inl ?_), .inl rfl⟩
  obtain ⟨E0, hE0⟩ : ∃ E0 : Nat, E0 = 2046 := ⟨_, rfl⟩
  have hv : fval 9218868437227405312 = 4503599627370496 * 2 ^ E0 := by
    have := fval_of 4503599627370496 E0 (by omega) (.inr (by omega))
    rw [show E0 * 4503599627370496 + 4503599627370496 = 9218868437227405312 by omega] at this
    exact this
  have hm : fmid (9218868437227405312 - 1) < 2 * fval 9218868437227405312 := by
    have h1 : fmid (9218868437227405312 - 1) = fval (9218868437227405312 - 1) + fval (9218868437227405312 - 1 + 1) := rfl
    have h2 : fval (9218868437227405312 - 1) < fval 9218868437227405312 := fval_lt (by omega)
    rw [h1, show 9218868437227405312 - 1 + 1 = 9218868437227405312 by omega]
    omega
  have h3 : D * fmid (9218868437227405312 - 1) < D * (2 * fval 9218868437227405312) := Nat.mul_lt_mul_of_pos_left hm hD
  have h4 : D * (2 * fval 9218868437227405312) ≤ 2 * 4503599627370496 * (D * 2 ^ E) := by
    rw [hv, Nat.mul_left_comm D, Nat.mul_left_comm D, ← Nat.mul_assoc]
    exact Nat.mul_le_mul_left _ (Nat.mul_le_mul_left _ (Nat.pow_le_pow_right (by decide) (by omega)))
  omega

/-- the first rounding is good -/
theorem near_one (hD : 0 < D) (hs : Step Y (D * 2 ^ E) n) (hn : n < 9007199254740992) (hb : E = 0 ∨ 2 * 4503599627370496 * (D * 2 ^ E) < Y) (hE : E ≤ 2048) :
    (E = 0 ∨ 4503599627370496 ≤ n) ∧ Rnd Y D (if 9218868437227405312 ≤ E * 4503599627370496 + n then 9218868437227405312 else E * 4503599627370496 + n) := by
  have hT : 0 < D * 2 ^ E := Nat.mul_pos hD (Nat.two_pow_pos _)
  have h1 : E = 0 ∨ 4503599627370496 ≤ n := hb.imp id (fun h => hs.bot hT h)
  refine ⟨h1, near_law hD hn h1 hE hs.lo hs.hi (hb.imp id (fun h => ?_))⟩
  generalize D * 2 ^ E = T at *
  omega
/-- the second rounding -/
theorem near_two (hD : 0 < D) (hs : Step Y (D * 2 ^ E) n) (hn : 9007199254740992 ≤ n) (ha : Y < 36028797018963968 * (D * 2 ^ E)) (hs2 : Step Y (D * 2 ^ (E + 1)) m) (hE : E ≤ 2046) :
    4503599627370496 ≤ m ∧ m ≤ 9007199254740992 ∧ (m < 9007199254740992 → Rnd Y D (if 9218868437227405312 ≤ (E + 1) * 4503599627370496 + m then 9218868437227405312 else (E + 1) * 4503599627370496 + m)) ∧
      (m = 9007199254740992 → Rnd Y D (if 9218868437227405312 ≤ (E + 2) * 4503599627370496 + 4503599627370496 then 9218868437227405312 else (E + 2) * 4503599627370496 + 4503599627370496)) := by
  have hT : 0 < D * 2 ^ E := Nat.mul_pos hD (Nat.two_pow_pos _)
  have e1 : D * 2 ^ (E + 1) = 2 * (D * 2 ^ E) := by rw [Nat.pow_succ, ← Nat.mul_assoc, Nat.mul_comm]
  have e2 : D * 2 ^ (E + 2) = 4 * (D * 2 ^ E) := by rw [Nat.pow_succ, Nat.pow_succ, Nat.mul_assoc (2 ^ E) 2 2, ← Nat.mul_assoc, Nat.mul_comm]
  have hd := hs.dn
  have hq : 18014398509481983 * (D * 2 ^ E) ≤ Y := Nat.le_trans (Nat.mul_le_mul_right _ (by omega)) hd
  have hT2 : 0 < D * 2 ^ (E + 1) := Nat.mul_pos hD (Nat.two_pow_pos _)
  have hm1 : 4503599627370496 ≤ m := by
    apply Classical.byContradiction
    intro hc
    have h1 : (2 * m + 1) * (D * 2 ^ (E + 1)) ≤ 9007199254740991 * (D * 2 ^ (E + 1)) := Nat.mul_le_mul_right _ (by omega)
    have h2 := hs2.up
    rw [e1] at h1 h2
    generalize D * 2 ^ E = T at *
    omega
  have hm2 : m ≤ 9007199254740992 := by
    refine hs2.top hT2 ?_
    rw [e1]
    generalize D * 2 ^ E = T at *
    omega
  refine ⟨hm1, hm2, fun h => ?_, fun h => ?_⟩
  · refine near_law hD h (.inr hm1) (by omega) hs2.lo hs2.hi (.inr ?_)
    rw [e1]
    generalize D * 2 ^ E = T at *
    omega
  · refine near_law hD (by omega) (.inr (Nat.le_refl _)) (by omega) (.inr (.inl ?_)) (.inl ?_) (.inr ?_)
    · have h2 := hs2.dn
      rw [h, e1] at h2
      rw [e2]
      generalize D * 2 ^ E = T at *
      omega
    · rw [e2]
      generalize D * 2 ^ E = T at *
      omega
    · have h2 := hs2.dn
      rw [h, e1] at h2
      rw [e2]
      generalize D * 2 ^ E = T at *
      omega
end Go.Proofs.YtldhmfkojaekfaaGreatDoor
namespace Go.Proofs.YtldhmfkojaekfaaGreatDoor
open Go.RowKit Gx
set_option maxRecDepth 100000
/-- -1, 0 or 1 -/
def cmpOf (a b : Nat) : Int := if a < b then -1 else if b < a then 1 else 0
theorem cmp_lt {a b : Nat} (h : a < b) : cmpOf a b = -1 := if_pos h
theorem cmp_gt {a b : Nat} (h : b < a) : cmpOf a b = 1 := by unfold cmpOf; rw [if_neg (by omega), if_pos h]
theorem cmp_eq {a b : Nat} (h : a = b) : cmpOf a b = 0 := by unfold cmpOf; rw [if_neg (by omega), if_neg (by omega)]

theorem canon_lt {a b : Nat} (h : (canon a).length < (canon b).length) : a < b := by
  rcases Nat.lt_or_ge a b with h1 | h1
  · exact h1
  · exfalso
    have hb : b ≠ 0 := by intro h0; subst h0; simp [canon_zero] at h
    have h2 := canon_len_gt b hb
    have h3 := bval_lt (canon a) (canon_words a)
    rw [bval_canon] at h3
    have h4 : 4294967296 ^ (canon a).length ≤ 4294967296 ^ ((canon b).length - 1) := Nat.pow_le_pow_right (by decide) (by omega)
    omega

/-- of two lists of one length, which part first (from the end) at m -/
theorem bval_part (A B : List Int) (hA : Words A) (hB : Words B) (hl : A.length = B.length) (m : Nat) (hm : m < A.length) (he : ∀ j, m < j → j < A.length → A.getD j 0 = B.getD j 0) (hlt : A.getD m 0 < B.getD m 0) :
    bval A < bval B := by
  have hd : A.drop (m + 1) = B.drop (m + 1) := by
    apply List.ext_getElem
    · simp [hl]
    · intro i h1 h2
      simp at h1 h2
      have := he (m + 1 + i) (by omega) (by omega)
      simpa [List.getD, List.getElem?_eq_getElem (show m + 1 + i < A.length by omega), List.getElem?_eq_getElem (show m + 1 + i < B.length by omega)] using this
  have ha : bval A = bval (A.take (m + 1)) + 4294967296 ^ (m + 1) * bval (A.drop (m + 1)) := by
    conv => lhs; rw [← List.take_append_drop (m + 1) A]
    rw [bval_append]; simp [Nat.min_eq_left (show m + 1 ≤ A.length by omega)]
  have hb : bval B = bval (B.take (m + 1)) + 4294967296 ^ (m + 1) * bval (B.drop (m + 1)) := by
    conv => lhs; rw [← List.take_append_drop (m + 1) B]
    rw [bval_append]; simp [Nat.min_eq_left (show m + 1 ≤ B.length by omega)]
  rw [ha, hb, hd, bval_take_succ, bval_take_succ]
  have h1 := bval_lt (A.take m) (fun x hx => hA x (List.mem_of_mem_take hx))
  simp only [List.length_take, Nat.min_eq_left (show m ≤ A.length by omega)] at h1
  have wa := words_getD hA m
  have wb := words_getD hB m
  have h2 : (A.getD m 0).toNat + 1 ≤ (B.getD m 0).toNat := by omega
  have h3 := Nat.mul_le_mul_left (4294967296 ^ m) h2
  rw [Nat.mul_add, Nat.mul_one] at h3
  omega

def CmpPostFl (a b : Nat) (w : World) (e : Ending) (w' : World) : Prop := e = .returned (.int .i64 (cmpOf a b)) ∧ Below w.heap.size w w'

set_option maxHeartbeats 1000000 in
theorem bigCmp_any (ad bd : Option Addr) (ca cb : Nat) (xs ys : List Int) (w : World) (h : Rd .u32 w ad ca xs) (g : Rd .u32 w bd cb ys) (hl : xs.length ≤ 1073741824) (hl2 : ys.length ≤ 1073741824) :
    Calls Tryz.prog 164 #[.slice ad xs.length ca, .slice bd ys.length cb] w (CmpPostFl (bval xs) (bval ys) w) := by
  have HA := Lib.hid (trimmed_any ad ca xs w h (by omega))
  have HB := Lib.hid (trimmed_any bd cb ys w g (by omega))
  have TA := h.trim
  have TB := g.trim
  have wx := words_of_rd h
  have wy := words_of_rd g
  clear h g
  have eA : bval (canon (bval xs)) = bval xs := bval_canon _
  have eB : bval (canon (bval ys)) = bval ys := bval_canon _
  have WA := canon_words (bval xs)
  have WB := canon_words (bval ys)
  have lA : (canon (bval xs)).length ≤ 1073741824 := by have := canon_len_le (bval xs) xs.length (bval_lt _ wx); omega
  have lB : (canon (bval ys)).length ≤ 1073741824 := by have := canon_len_le (bval ys) ys.length (bval_lt _ wy); omega
  clear wx wy
  obtain ⟨a, ha⟩ : ∃ a, a = bval xs := ⟨_, rfl⟩
  obtain ⟨b, hb⟩ : ∃ b, b = bval ys := ⟨_, rfl⟩
  unfold TrimmedPost at HA HB
  rw [← ha] at HA TA eA WA lA ⊢
  rw [← hb] at HB TB eB WB lB ⊢
  clear ha hb
  have hcl : (canon a).length < (canon b).length → a < b := canon_lt
  have hcg : (canon b).length < (canon a).length → b < a := canon_lt
  obtain ⟨A, hA⟩ : ∃ A, A = canon a := ⟨_, rfl⟩
  obtain ⟨B, hB⟩ : ∃ B, B = canon b := ⟨_, rfl⟩
  rw [← hA] at HA TA eA WA lA hcl hcg
  rw [← hB] at HB TB eB WB lB hcl hcg
  clear hA hB
  rcases Nat.lt_trichotomy A.length B.length with hc | hc | hc
  · have HP := Lib.hid (cmp_lt (hcl hc))
    have ht : decide ((A.length : Int) < (B.length : Int)) = true := by simpa using hc
    clear hcl hcg TA TB eA eB WA WB
    go_enter Tryz.func164, Tryz.ntmps164
    go_wp2_with fail
    refine HA.out.mono ?_
    rintro e w' ⟨rfl, rfl⟩
    go_wp2_with fail
    refine HB.out.mono ?_
    rintro e w' ⟨rfl, rfl⟩
    go_wp2
    go_ret
    exact ⟨by rw [HP.out]; rfl, Below.refl _ _⟩
  · have ht : decide ((A.length : Int) < (B.length : Int)) = false := by simp; omega
    have ht2 : decide ((B.length : Int) < (A.length : Int)) = false := by simp; omega
    have ht3 : decide (A.length < B.length) = false := by simp; omega
    have ht4 : decide (B.length < A.length) = false := by simp; omega
    have HPL : Hid (∀ m, m < A.length → (∀ j, m < j → j < A.length → A.getD j 0 = B.getD j 0) → A.getD m 0 < B.getD m 0 → a < b) := by
      intro m h1 h2 h3
      have := bval_part A B WA WB hc m h1 h2 h3
      omega
    have HPG : Hid (∀ m, m < A.length → (∀ j, m < j → j < A.length → A.getD j 0 = B.getD j 0) → B.getD m 0 < A.getD m 0 → b < a) := by
      intro m h1 h2 h3
      have := bval_part B A WB WA hc.symm m (by omega) (fun j q1 q2 => (h2 j q1 (by omega)).symm) h3
      omega
    have HPE : Hid ((∀ j, j < A.length → A.getD j 0 = B.getD j 0) → a = b) := by
      intro h2
      have : A = B := by
        apply List.ext_getElem hc
        intro i h3 h4
        have := h2 i h3
        simpa [List.getD, List.getElem?_eq_getElem h3, List.getElem?_eq_getElem h4] using this
      rw [← eA, ← eB, this]
    have HC := Lib.hid hc
    have TA := Lib.hid TA
    have TB := Lib.hid TB
    clear hcl hcg eA eB WA WB hc
    go_enter Tryz.func164, Tryz.ntmps164
    go_wp2_with fail
    refine HA.out.mono ?_
    rintro e w' ⟨rfl, rfl⟩
    go_wp2_with fail
    refine HB.out.mono ?_
    rintro e w' ⟨rfl, rfl⟩
    clear HA HB
    go_wp2
    clear ht ht2 ht3 ht4
    go_loopw [5] (fun i wr => ∃ m : Nat, m ≤ A.length ∧ i = .int .i64 ((m : Int) - 1) ∧ Hid (∀ j, m ≤ j → j < A.length → A.getD j 0 = B.getD j 0) ∧ Hid (∃ n, wr = w.drewN n))
      (fun i _ => (intOf i + 1).toNat)
    case atStart => exact ⟨A.length, Nat.le_refl _, rfl, fun j h1 h2 => by omega, 0, rfl⟩
    case round =>
      obtain ⟨m, hm, rfl, heq, hw⟩ := hrel
      by_cases hm0 : m = 0
      · subst hm0
        have hab := HPE.out (fun j hj => heq.out j (Nat.zero_le _) hj)
        have HP := Lib.hid (cmp_eq hab)
        clear hab
        go_wp2
        go_ret
        obtain ⟨n, e⟩ := hw.out
        exact ⟨by rw [HP.out]; rfl, by rw [e]; exact Gx.drewN_below _ _ _⟩
      · obtain ⟨b1, o1, rfl, -, hc1⟩ := TA.out.addr (by omega)
        obtain ⟨b2, o2, rfl, -, hc2⟩ := TB.out.addr (by have := HC.out; omega)
        have hd1 := hc1 (m - 1) (by omega)
        have hd2 := hc2 (m - 1) (by have := HC.out; omega)
        clear hc1 hc2
        obtain ⟨x, ex⟩ : ∃ x, x = A.getD (m - 1) 0 := ⟨_, rfl⟩
        obtain ⟨y, ey⟩ : ∃ y, y = B.getD (m - 1) 0 := ⟨_, rfl⟩
        rw [← ex] at hd1
        rw [← ey] at hd2
        have EX := Lib.hid ex
        have EY := Lib.hid ey
        clear ex ey
        have hf1 : wr.cell? ⟨b1, o1 + (m - 1), none⟩ = some (.int .u32 x) := by obtain ⟨n, e⟩ := hw.out; rw [e, World.cell?_drewN]; exact hd1
        have hf2 : wr.cell? ⟨b2, o2 + (m - 1), none⟩ = some (.int .u32 y) := by obtain ⟨n, e⟩ := hw.out; rw [e, World.cell?_drewN]; exact hd2
        have hmB : m ≤ B.length := by have := HC.out; omega
        clear hd1 hd2
        have hi0 : (0 : Int) ≤ (m : Int) - 1 := by omega
        have hi1 : (m : Int) - 1 < (A.length : Int) := by omega
        have hi2 : (m : Int) - 1 < (B.length : Int) := by omega
        have hi3 : ((m : Int) - 1).toNat = m - 1 := by omega
        rcases Int.lt_trichotomy x y with hxy | hxy | hxy
        · have hd : decide (x < y) = true := by simpa using hxy
          have HP := Lib.hid (cmp_lt (HPL.out (m - 1) (by omega) (fun j q1 q2 => heq.out j (by omega) q2) (by rw [← EX.out, ← EY.out]; exact hxy)))
          go_wp2
          go_quiet (fail)
          go_wp2
          go_ret
          obtain ⟨n, e⟩ := hw.out
          exact ⟨by rw [HP.out]; rfl, by rw [e]; repeat first | exact Gx.drewN_below _ _ _ | refine Below.trans ?_ (Gx.drewN_below _ _ _)⟩
        · subst hxy
          have hd : decide (x < x) = false := by simp
          go_wp2
          go_quiet (fail)
          go_wp2
          go_quiet (fail)
          go_wp2
          go_roundw
          case rel =>
            refine ⟨m - 1, by omega, ?_, fun j q1 q2 => ?_, ?_⟩
            · congr 1 <;> omega
            · by_cases hj : j = m - 1
              · rw [hj, ← EX.out, ← EY.out]
              · exact heq.out j (by omega) q2
            · obtain ⟨n, e⟩ := hw.out
              exact ⟨_, by rw [e, World.drewN_drewN]⟩
          case measure => simp [intOf]; omega
        · have hd : decide (x < y) = false := by simp; omega
          have hd' : decide (y < x) = true := by simpa using hxy
          have HP := Lib.hid (cmp_gt (HPG.out (m - 1) (by omega) (fun j q1 q2 => heq.out j (by omega) q2) (by rw [← EX.out, ← EY.out]; exact hxy)))
          go_wp2
          go_quiet (fail)
          go_wp2
          go_quiet (fail)
          go_wp2
          go_ret
          obtain ⟨n, e⟩ := hw.out
          exact ⟨by rw [HP.out]; rfl, by rw [e]; repeat first | exact Gx.drewN_below _ _ _ | refine Below.trans ?_ (Gx.drewN_below _ _ _)⟩
  · have HP := Lib.hid (cmp_gt (hcg hc))
    have ht : decide ((A.length : Int) < (B.length : Int)) = false := by simp; omega
    have ht2 : decide ((B.length : Int) < (A.length : Int)) = true := by simpa using hc
    clear hcl hcg TA TB eA eB WA WB
    go_enter Tryz.func164, Tryz.ntmps164
    go_wp2_with fail
    refine HA.out.mono ?_
    rintro e w' ⟨rfl, rfl⟩
    go_wp2_with fail
    refine HB.out.mono ?_
    rintro e w' ⟨rfl, rfl⟩
    go_wp2
    go_ret
    exact ⟨by rw [HP.out]; rfl, Below.refl _ _⟩
end Go.Proofs.YtldhmfkojaekfaaGreatDoor
namespace Go.Proofs.YtldhmfkojaekfaaGreatDoor
open Go.RowKit Gx
set_option maxRecDepth 100000
theorem borrow_range (x y c : Int) : 0 ≤ borrowOf x y c ∧ borrowOf x y c ≤ 1 := by
  unfold borrowOf
  split <;> omega

end Go.Proofs.YtldhmfkojaekfaaGreatDoor
namespace Go.Proofs.YtldhmfkojaekfaaGreatDoor
open Go.RowKit Gx
set_option maxRecDepth 100000
theorem or_word (hi lo : Int) (hh : 0 ≤ hi) (hh' : hi ≤ 4294967295) (hl : 0 ≤ lo) (hl' : lo ≤ 4294967295) : bits BinOp.or IntKind.u64 (hi * 4294967296) lo = hi * 4294967296 + lo := by
  obtain ⟨a, rfl⟩ := Int.eq_ofNat_of_zero_le hh
  obtain ⟨b, rfl⟩ := Int.eq_ofNat_of_zero_le hl
  have e : (a : Int) * 4294967296 = ((a * 4294967296 : Nat) : Int) := by omega
  rw [e, bits_or_u64_nat _ _ (by omega) (by omega)]
  have h := Nat.shiftLeft_add_eq_or_of_lt (b := b) (i := 32) (by omega) a
  rw [Nat.shiftLeft_eq] at h
  have h2 : (2 : Nat) ^ 32 = 4294967296 := by decide
  rw [h2] at h
  rw [← h]; omega

def DivPost (a b : Int) (w : World) (e : Ending) (w' : World) : Prop := e = .returned (.tuple #[.int .u32 a, .int .u32 b]) ∧ ∃ n, w' = w.drewN n

set_option maxHeartbeats 400000 in
theorem div32_any (hi lo y : Int) (w : World) (hh : 0 ≤ hi) (hl : 0 ≤ lo) (hl' : lo ≤ 4294967295) (hy' : y ≤ 4294967295) (hy : hi < y) :
    Calls Tryz.prog 195 #[.int .u32 hi, .int .u32 lo, .int .u32 y] w (DivPost ((hi * 4294967296 + lo) / y) ((hi * 4294967296 + lo) % y) w) := by
  have hb : ((y : Int) != 0) = true := by simp; omega
  have hb1 : decide (y ≤ hi) = false := by simp; omega
  have hor := or_word hi lo hh (by omega) hl hl'
  obtain ⟨z, hz⟩ : ∃ z, z = hi * 4294967296 + lo := ⟨_, rfl⟩
  have hz0 : 0 ≤ z := by omega
  have hz1 : z ≤ 18446744073709551615 := by omega
  have hq0 : 0 ≤ z / y := Int.ediv_nonneg hz0 (by omega)
  have hq1 : z / y ≤ 4294967295 := by
    have : z / y < 4294967296 := Int.ediv_lt_of_lt_mul (by omega) (by
      have : (hi + 1) * 4294967296 ≤ y * 4294967296 := Int.mul_le_mul_of_nonneg_right (by omega) (by decide)
      rw [Int.mul_comm 4294967296 y]; omega)
    omega
  have hr0 : 0 ≤ z % y := Int.emod_nonneg _ (by omega)
  have hr1 : z % y ≤ 4294967295 := by have := Int.emod_lt_of_pos z (show 0 < y by omega); omega
  rw [← hz] at hor ⊢
  clear hz
  have hy1 : 1 ≤ y := by omega
  have hd1 : z.tdiv y = z / y := Int.tdiv_eq_ediv_of_nonneg hz0
  have hd2 : z.tmod y = z % y := Int.tmod_eq_emod_of_nonneg hz0
  have hw1 : IntKind.u64.wrap (z / y) = z / y := by rw [IntKind.wrap_u64]; omega
  have hm1 : z / y % 4294967296 = z / y := by omega
  have hm2 : z % y % 4294967296 = z % y := by omega
  go_enter Tryz.func195, Tryz.ntmps195
  go_wp2
  go_quiet (fail)
  go_wp2
  go_ret2
  exact ⟨rfl, _, rfl⟩
end Go.Proofs.YtldhmfkojaekfaaGreatDoor
