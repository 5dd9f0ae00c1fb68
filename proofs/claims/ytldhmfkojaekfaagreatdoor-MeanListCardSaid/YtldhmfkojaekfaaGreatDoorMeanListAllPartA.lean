/-
  Plain facts on tokens: what stands behind a token does not count for it. No conditions.
  Plain facts on tokens: what is ahead of a token is cut as it was, and so is what stands behind it. No conditions.
  Plain law: texts between quotes. No conditions.
  Plain law: an entry is found, dropped, put. No conditions.
  Plain law: the solid tokens of a text; texts laid end to end. No conditions.
-/
import Derived.Test.YtldhmfkojaekfaaGreatDoorMeanGoodAllPartV
set_option linter.unusedVariables false
set_option linter.unusedSimpArgs false
namespace Go.Proofs.YtldhmfkojaekfaaGreatDoor
open Go.RowKit Gx
theorem isPrefixOf_take (sub l : List UInt8) (m : Nat) (h : sub.length ≤ m) : sub.isPrefixOf (l.take m) = sub.isPrefixOf l := by
  rw [Bool.eq_iff_iff, List.isPrefixOf_iff_prefix, List.isPrefixOf_iff_prefix]
  constructor
  · intro h1; exact h1.trans (List.take_prefix m l)
  · intro h1
    obtain ⟨t, rfl⟩ := h1
    exact ⟨t.take (m - sub.length), by rw [List.take_append, List.take_of_length_le h]⟩

theorem index_take (sub : List UInt8) : ∀ (l : List UInt8) (m : Nat), 0 ≤ Lib.index l sub → Lib.index l sub + sub.length ≤ m → Lib.index (l.take m) sub = Lib.index l sub := by
  intro l
  induction l with
  | nil => intro m _ _; rw [List.take_nil]
  | cons b l ih =>
    intro m h0 hm
    rw [index_cons] at h0 hm ⊢
    by_cases h1 : sub.isPrefixOf (b :: l) = true
    · rw [if_pos h1] at hm ⊢
      have h2 : sub.isPrefixOf ((b :: l).take m) = true := by rw [isPrefixOf_take _ _ _ (by omega)]; exact h1
      cases m with
      | zero =>
        have : sub = [] := List.eq_nil_of_length_eq_zero (by omega)
        subst this; rfl
      | succ m => rw [List.take_succ_cons, index_cons] ; rw [List.take_succ_cons] at h2; rw [if_pos h2]
    · rw [if_neg h1] at h0 hm ⊢
      by_cases h3 : Lib.index l sub = -1
      · rw [h3] at h0; simp at h0
      · have h4 : (Lib.index l sub == -1) = false := by simpa using h3
        rw [h4] at h0 hm ⊢
        simp only [Bool.false_eq_true, ↓reduceIte] at h0 hm ⊢
        have h5 := Lib.index_ge l sub
        obtain ⟨q, rfl⟩ : ∃ q, m = q + 1 := ⟨m - 1, by omega⟩
        have h6 := ih q (by omega) (by omega)
        have h7 : sub.isPrefixOf ((b :: l).take (q + 1)) = false := by
          rw [isPrefixOf_take _ _ _ (by omega)]; exact Bool.eq_false_iff.2 h1
        rw [List.take_succ_cons] at h7 ⊢
        rw [index_cons, h7, h6, h4]
        simp

/-- one byte: ahead of its first place it is not -/
theorem index_none (c : UInt8) : ∀ (l : List UInt8) (e : Nat), Lib.index l [c] = (e : Int) → Lib.index (l.take e) [c] = -1 := by
  intro l
  induction l with
  | nil => intro e h; rw [List.take_nil]; rfl
  | cons b l ih =>
    intro e h
    rw [index_cons] at h
    by_cases h1 : ([c] : List UInt8).isPrefixOf (b :: l) = true
    · rw [if_pos h1] at h
      have : e = 0 := by omega
      subst this
      rfl
    · rw [if_neg h1] at h
      by_cases h3 : Lib.index l [c] = -1
      · rw [h3] at h; simp at h
      · have h4 : (Lib.index l [c] == -1) = false := by simpa using h3
        rw [h4] at h
        simp only [Bool.false_eq_true, ↓reduceIte] at h
        have h5 := Lib.index_ge l [c]
        obtain ⟨q, rfl⟩ : ∃ q, e = q + 1 := ⟨e - 1, by omega⟩
        have h6 := ih q (by omega)
        have h7 : ([c] : List UInt8).isPrefixOf ((b :: l).take (q + 1)) = false := by
          rw [isPrefixOf_take _ _ _ (by simp)]; exact Bool.eq_false_iff.2 h1
        rw [List.take_succ_cons] at h7 ⊢
        rw [index_cons, h7, h6]
        rfl

theorem cut_take (l : List UInt8) (m : Nat) (h : (Lib.cut l [10]).1.length ≤ m) : (Lib.cut (l.take m) [10]).1.length = (Lib.cut l [10]).1.length := by
  have hlow := Lib.index_ge l [10]
  by_cases h0 : 0 ≤ Lib.index l [10]
  · obtain ⟨e, he⟩ := Int.eq_ofNat_of_zero_le h0
    have hfit := index_fits l [10] h0
    have hcl : (Lib.cut l [10]).1.length = e := by
      unfold Lib.cut
      rw [if_pos h0, he]
      simp
      simp at hfit; omega
    rw [hcl] at h ⊢
    by_cases hm : e + 1 ≤ m
    · have h2 := index_take [10] l m h0 (by simp; omega)
      unfold Lib.cut
      rw [h2, if_pos h0, he]
      simp
      simp at hfit; omega
    · have hme : m = e := by omega
      subst hme
      have h2 := index_none 10 l m he
      unfold Lib.cut
      rw [h2, if_neg (by decide)]
      simp
      simp at hfit; omega
  · have hcl : (Lib.cut l [10]).1 = l := by unfold Lib.cut; rw [if_neg h0]
    rw [hcl] at h ⊢
    rw [List.take_of_length_le h, hcl]

theorem noteLen_take (l : List UInt8) (m : Nat) (h0 : 0 < noteLen l) (h : noteLen l ≤ m) : noteLen (l.take m) = noteLen l := by
  have hm : 0 < m := by omega
  have hh : (l.take m).head? = l.head? := by
    cases l with
    | nil => simp
    | cons b r => obtain ⟨q, rfl⟩ : ∃ q, m = q + 1 := ⟨m - 1, by omega⟩; rfl
  unfold noteLen at h h0 ⊢
  rw [hh]
  by_cases h1 : l.head? = some 35
  · rw [if_pos h1] at h h0 ⊢
    rw [if_pos h1]
    exact cut_take l m h
  · rw [if_neg h1] at h h0 ⊢
    rw [if_neg h1]
    by_cases h2 : Lib.hasPrefix l [47, 42] = true
    · rw [if_pos h2] at h h0 ⊢
      by_cases h3 : Lib.index (l.drop 2) [42, 47] < 0
      · rw [if_pos h3] at h0; omega
      · rw [if_neg h3] at h h0 ⊢
        have h4 : Lib.hasPrefix (l.take m) [47, 42] = true := by
          show ([47, 42] : List UInt8).isPrefixOf (l.take m) = true
          rw [isPrefixOf_take _ _ _ (by simp; omega)]; exact h2
        have h5 : (l.take m).drop 2 = (l.drop 2).take (m - 2) := by rw [List.drop_take]
        have h6 := index_take [42, 47] (l.drop 2) (m - 2) (by omega) (by simp; omega)
        rw [if_pos h4, h5, h6, if_neg h3]
    · rw [if_neg h2] at h0; omega

theorem textScan_take : ∀ (l : List UInt8) (p : Bool) (i m : Nat), 0 < textScan l p i → textScan l p i ≤ i + m → textScan (l.take m) p i = textScan l p i
  | [], p, i, m, h0, _ => by simp [textScan] at h0
  | b :: r, p, i, m, h0, h => by
    have key : ∀ p2, 0 < textScan r p2 (i + 1) → i + 1 < textScan r p2 (i + 1) ∨ True := fun _ _ => .inr trivial
    unfold textScan at h0 h
    by_cases h1 : b = 10
    · rw [if_pos h1] at h0; omega
    · rw [if_neg h1] at h0 h
      by_cases h2 : p = true
      · rw [if_pos h2] at h0 h
        have hlow := textScan_low r false (i + 1) h0
        obtain ⟨q, rfl⟩ : ∃ q, m = q + 1 := ⟨m - 1, by omega⟩
        have ih := textScan_take r false (i + 1) q h0 (by omega)
        rw [List.take_succ_cons]
        unfold textScan
        rw [if_neg h1, if_neg h1, if_pos h2, if_pos h2, ih]
      · rw [if_neg h2] at h0 h
        by_cases h3 : b = 34
        · rw [if_pos h3] at h0 h
          obtain ⟨q, rfl⟩ : ∃ q, m = q + 1 := ⟨m - 1, by omega⟩
          rw [List.take_succ_cons]
          unfold textScan
          rw [if_neg h1, if_neg h1, if_neg h2, if_neg h2, if_pos h3, if_pos h3]
        · rw [if_neg h3] at h0 h
          have hlow := textScan_low r (b == 92) (i + 1) h0
          obtain ⟨q, rfl⟩ : ∃ q, m = q + 1 := ⟨m - 1, by omega⟩
          have ih := textScan_take r (b == 92) (i + 1) q h0 (by omega)
          rw [List.take_succ_cons]
          unfold textScan
          rw [if_neg h1, if_neg h1, if_neg h2, if_neg h2, if_neg h3, if_neg h3, ih]
where textScan_low : ∀ (l : List UInt8) (p : Bool) (i : Nat), 0 < textScan l p i → i < textScan l p i
  | [], p, i, h => by simp [textScan] at h
  | b :: r, p, i, h => by
    unfold textScan at h ⊢
    by_cases h1 : b = 10
    · rw [if_pos h1] at h; omega
    · rw [if_neg h1] at h ⊢
      by_cases h2 : p = true
      · rw [if_pos h2] at h ⊢
        have := textScan_low r false (i + 1) h
        omega
      · rw [if_neg h2] at h ⊢
        by_cases h3 : b = 34
        · rw [if_pos h3]; omega
        · rw [if_neg h3] at h ⊢
          have := textScan_low r (b == 92) (i + 1) h
          omega
theorem textLen_take (l : List UInt8) (m : Nat) (h0 : 0 < textLen l) (h : textLen l ≤ m) : textLen (l.take m) = textLen l := by
  unfold textLen at *
  rw [List.drop_take]
  exact textScan_take _ _ _ _ h0 (by omega)
theorem runLen_take (k : Int) : ∀ (r : List UInt8) (m : Nat), runLen k r ≤ m → runLen k (r.take m) = runLen k r := by
  intro r
  induction r with
  | nil => intro m _; rw [List.take_nil]
  | cons b r ih =>
    intro m h
    rw [runLen_cons] at h ⊢
    by_cases hc : classOf (b.toNat : Int) = k
    · rw [if_pos hc] at h ⊢
      obtain ⟨q, rfl⟩ : ∃ q, m = q + 1 := ⟨m - 1, by omega⟩
      rw [List.take_succ_cons, runLen_cons, if_pos hc, ih q (by omega)]
    · rw [if_neg hc]
      cases m with
      | zero => rfl
      | succ q => rw [List.take_succ_cons, runLen_cons, if_neg hc]

/-- what stands behind a good token does not count for it -/
theorem nextTok_take (l : List UInt8) (m : Nat) (hl : 0 < l.length) (hm : (nextTok l).2 ≤ m) (hk : (nextTok l).1 ≠ 7 ∨ m = (nextTok l).2) : nextTok (l.take m) = nextTok l := by
  have hn := nextTok_fits l hl
  cases l with
  | nil => simp at hl
  | cons b r =>
    obtain ⟨q, rfl⟩ : ∃ q, m = q + 1 := ⟨m - 1, by omega⟩
    have htk : (b :: r).take (q + 1) = b :: r.take q := List.take_succ_cons
    rw [htk]
    unfold nextTok at hm hk ⊢
    simp only [] at hm hk ⊢
    by_cases h1 : classOf (b.toNat : Int) = 1 ∨ classOf (b.toNat : Int) = 4
    · rw [if_pos h1] at hm ⊢
      rw [if_pos h1, runLen_take _ _ _ (by simp only [] at hm; omega)]
    · rw [if_neg h1] at hm hk ⊢
      rw [if_neg h1]
      by_cases h3 : classOf (b.toNat : Int) = 3
      · rw [if_pos h3] at hm hk ⊢
        rw [if_pos h3]
        by_cases hz : noteLen (b :: r) = 0
        · rw [if_pos hz] at hm hk ⊢
          rcases hk with hk | hk
          · exact absurd rfl hk
          · simp only [] at hk
            obtain rfl : q = 0 := by omega
            have h35 : b ≠ 35 := by
              intro h; subst h
              unfold noteLen at hz
              rw [if_pos (show (35 :: r).head? = some 35 from rfl)] at hz
              have := cut_len (35 :: r) [10]
              have hp : (0 : Nat) < (Lib.cut (35 :: r) [10]).1.length := by
                unfold Lib.cut
                rw [index_cons]
                have h4 : ([10] : List UInt8).isPrefixOf (35 :: r) = false := by simp [List.isPrefixOf]
                rw [h4]
                simp only [Bool.false_eq_true, ↓reduceIte]
                have h5 := Lib.index_ge r [10]
                by_cases h6 : Lib.index r [10] = -1
                · rw [h6]; simp
                · have h7 : (Lib.index r [10] == -1) = false := by simpa using h6
                  rw [h7]
                  simp only [Bool.false_eq_true, ↓reduceIte]
                  rw [if_pos (by omega)]
                  have h8 : (Lib.index r [10] + 1).toNat = (Lib.index r [10]).toNat + 1 := by omega
                  rw [h8]; simp
              omega
            have hz2 : noteLen [b] = 0 := by
              unfold noteLen
              rw [if_neg (by simpa using h35)]
              have h4 : Lib.hasPrefix [b] [47, 42] = false := by
                show ([47, 42] : List UInt8).isPrefixOf [b] = false
                simp [List.isPrefixOf]
              rw [h4]; rfl
            rw [List.take_zero, hz2]
            rfl
        · rw [if_neg hz] at hm ⊢
          have := noteLen_take (b :: r) (q + 1) (by omega) (by simp only [] at hm; exact hm)
          rw [htk] at this
          rw [this, if_neg hz]
      · rw [if_neg h3] at hm hk ⊢
        rw [if_neg h3]
        by_cases h5 : classOf (b.toNat : Int) = 5
        · rw [if_pos h5] at hm hk ⊢
          rw [if_pos h5]
          by_cases hz : textLen (b :: r) = 0
          · rw [if_pos hz] at hm hk ⊢
            rcases hk with hk | hk
            · exact absurd rfl hk
            · simp only [] at hk
              obtain rfl : q = 0 := by omega
              have hz2 : textLen [b] = 0 := rfl
              rw [List.take_zero, hz2]
              rfl
          · rw [if_neg hz] at hm ⊢
            have := textLen_take (b :: r) (q + 1) (by omega) (by simp only [] at hm; exact hm)
            rw [htk] at this
            rw [this, if_neg hz]
        · rw [if_neg h5]
          rw [if_neg h5]

end Go.Proofs.YtldhmfkojaekfaaGreatDoor
namespace Go.Proofs.YtldhmfkojaekfaaGreatDoor
open Go.RowKit Gx
/-- what stands behind a place is cut as it was, its places so many less -/
theorem toks_drop (l : List UInt8) (a : Nat) : ∀ (f j : Nat), l.length ≤ a + j + f →
    toksFrom (l.drop a) j = (toksFrom l (a + j)).map fun t => (t.1, t.2.1 - a, t.2.2 - a) := by
  intro f
  induction f with
  | zero =>
    intro j h
    rw [toksFrom_end _ _ (by rw [List.length_drop]; omega), toksFrom_end _ _ (by omega)]
    rfl
  | succ f ih =>
    intro j h
    by_cases hj : l.length ≤ a + j
    · rw [toksFrom_end _ _ (by rw [List.length_drop]; omega), toksFrom_end _ _ hj]
      rfl
    · have hn := nextTok_fits (l.drop (a + j)) (by rw [List.length_drop]; omega)
      rw [toksFrom_step _ j (by rw [List.length_drop]; omega), toksFrom_step l (a + j) (by omega), List.drop_drop, List.map_cons, ih _ (by omega)]
      rw [show a + (j + (nextTok (l.drop (a + j))).2) = a + j + (nextTok (l.drop (a + j))).2 by omega]
      congr 1
      refine Prod.ext rfl (Prod.ext ?_ ?_)
      · show j = a + j - a; omega
      · show j + _ = a + j + _ - a; omega

end Go.Proofs.YtldhmfkojaekfaaGreatDoor
namespace Go.Proofs.YtldhmfkojaekfaaGreatDoor
open Go.RowKit Gx
theorem enc_ascii (r : Int) (h0 : 0 ≤ r) (h1 : r ≤ 127) : Lib.encodeRune r = [r.toNat.toUInt8] := by
  unfold Lib.encodeRune; rw [Lib.encodeRuneZ_one h0 h1]; rfl
theorem okText_ascii (c : UInt8) (hc : c.toNat < 128) (x : List UInt8) : okText (c :: x) ↔ okText x := by
  have h := okText_code (c.toNat : Int) (by rw [good_iff]; omega) x
  rw [enc_ascii _ (by omega) (by omega)] at h
  have e : ((c.toNat : Int)).toNat.toUInt8 = c := by simp
  rw [e] at h
  exact h
theorem okText_asciis (l : List UInt8) (hl : ∀ c ∈ l, c.toNat < 128) (x : List UInt8) : okText (l ++ x) ↔ okText x := by
  induction l with
  | nil => exact Iff.rfl
  | cons c l ih =>
    rw [List.cons_append, okText_ascii c (hl c (by simp)), ih (fun c hc => hl c (by simp [hc]))]
end Go.Proofs.YtldhmfkojaekfaaGreatDoor
namespace Go.Proofs.YtldhmfkojaekfaaGreatDoor
open Go.RowKit Gx
theorem isK_iff {s : ByteArray} {x : ByteArray × V} : isK s x = true ↔ x.1 = s := by
  unfold isK
  rw [beq_iff_eq, ByteArray.toList_eq, ByteArray.toList_eq]
  exact ⟨fun h => ByteArray.ext (Array.toList_inj.1 h), fun h => by rw [h]⟩
theorem fidx_lt {s : ByteArray} {l : List (ByteArray × V)} : fidx s l < l.length ↔ s ∈ l.map Prod.fst := by
  unfold fidx
  rw [List.findIdx_lt_length, List.mem_map]
  exact ⟨fun ⟨x, h1, h2⟩ => ⟨x, h1, isK_iff.1 h2⟩, fun ⟨x, h1, h2⟩ => ⟨x, h1, isK_iff.2 h2⟩⟩
theorem put_mem {l : List (ByteArray × V)} {s : ByteArray} {v : V} {x : ByteArray × V} : x ∈ putL l s v ↔ x = (s, v) ∨ (x ∈ l ∧ x.1 ≠ s) := by
  unfold putL insL
  rw [List.mem_append, List.mem_cons]
  have h : x ∈ dropL l s ↔ x ∈ l ∧ x.1 ≠ s := by
    unfold dropL
    rw [List.mem_filter]
    refine and_congr_right fun _ => ?_
    rw [Bool.not_eq_true', ← Bool.not_eq_true, isK_iff]
  rw [← h]
  have h2 := List.take_append_drop (gidx s (dropL l s)) (dropL l s)
  constructor
  · rintro (g | g | g)
    · exact .inr (List.mem_of_mem_take g)
    · exact .inl g
    · exact .inr (List.mem_of_mem_drop g)
  · rintro (g | g)
    · exact .inr (.inl g)
    · rw [← h2, List.mem_append] at g
      exact g.imp id .inr
theorem put_keys {l : List (ByteArray × V)} {s k : ByteArray} {v : V} : k ∈ (putL l s v).map Prod.fst ↔ k = s ∨ k ∈ l.map Prod.fst := by
  rw [List.mem_map, List.mem_map]
  constructor
  · rintro ⟨x, h, rfl⟩
    rcases put_mem.1 h with rfl | h
    · exact .inl rfl
    · exact .inr ⟨x, h.1, rfl⟩
  · rintro (rfl | ⟨x, h, rfl⟩)
    · exact ⟨_, put_mem.2 (.inl rfl), rfl⟩
    · by_cases hx : x.1 = s
      · exact ⟨_, put_mem.2 (.inl rfl), hx.symm⟩
      · exact ⟨x, put_mem.2 (.inr ⟨h, hx⟩), rfl⟩
end Go.Proofs.YtldhmfkojaekfaaGreatDoor
namespace Go.Proofs.YtldhmfkojaekfaaGreatDoor
open Go.RowKit Gx
theorem solO_nil (o : Nat) : solO [] o = [] := rfl
theorem sol_shift (l : List UInt8) (o n : Nat) : ∀ T : List Tok, (∀ t ∈ T, n ≤ t.2.1) → (T.filter fun t => solidK t.1).map (fun t => ((t.1, o + t.2.1, (l.drop t.2.1).take (t.2.2 - t.2.1)) : Tk)) =
    ((T.map fun t => ((t.1, t.2.1 - n, t.2.2 - n) : Tok)).filter fun t => solidK t.1).map fun t => (t.1, o + n + t.2.1, ((l.drop n).drop t.2.1).take (t.2.2 - t.2.1))
  | [], _ => rfl
  | t :: T, h => by
    have ih := sol_shift l o n T (fun t ht => h t (List.mem_cons_of_mem _ ht))
    have h1 := h t List.mem_cons_self
    rw [List.filter_cons, List.map_cons, List.filter_cons]
    cases hk : solidK t.1 with
    | false => simp only [Bool.false_eq_true, if_false]; exact ih
    | true =>
      simp only [if_true, List.map_cons]
      rw [ih, List.drop_drop, show n + (t.2.1 - n) = t.2.1 by omega, show t.2.2 - n - (t.2.1 - n) = t.2.2 - t.2.1 by omega, show o + n + (t.2.1 - n) = o + t.2.1 by omega]
theorem solO_step (l : List UInt8) (o : Nat) (h : l ≠ []) : solO l o = (if solidK (nextTok l).1 = true then [((nextTok l).1, o, l.take (nextTok l).2)] else []) ++ solO (l.drop (nextTok l).2) (o + (nextTok l).2) := by
  have hl : 0 < l.length := List.length_pos_iff.2 h
  have hd := toks_drop l (nextTok l).2 l.length 0 (by omega)
  rw [Nat.add_zero] at hd
  have e := sol_shift l o (nextTok l).2 (toksFrom l (nextTok l).2) (fun t ht => (toksFrom_low l l.length _ (by omega) t ht).1)
  unfold solO
  rw [toksFrom_step l 0 hl, List.drop_zero, Nat.zero_add, hd, List.filter_cons, ← e]
  cases hk : solidK (nextTok l).1 with
  | false => simp only [Bool.false_eq_true, if_false, List.nil_append]
  | true => simp only [if_true, List.map_cons, List.drop_zero, Nat.sub_zero, Nat.add_zero, List.cons_append, List.nil_append]
/-- a token that is known -/
theorem solO_tok {p r : List UInt8} {k : Int} (o : Nat) (hp : p ≠ []) (h : nextTok (p ++ r) = (k, p.length)) : solO (p ++ r) o = (if solidK k = true then [(k, o, p)] else []) ++ solO r (o + p.length) := by
  rw [solO_step _ o (by simp [hp]), h]
  simp

theorem runLen_all (k : Int) : ∀ (p z : List UInt8), (∀ c ∈ p, classOf (c.toNat : Int) = k) → runLen k (p ++ z) = p.length + runLen k z
  | [], z, _ => by simp
  | c :: p, z, h => by
    rw [List.cons_append, runLen_cons, if_pos (h c List.mem_cons_self), runLen_all k p z (fun c hc => h c (List.mem_cons_of_mem _ hc)), List.length_cons]
    omega
theorem runLen_len (k : Int) : ∀ p : List UInt8, runLen k p = p.length → ∀ c ∈ p, classOf (c.toNat : Int) = k
  | [], _, c, hc => by cases hc
  | b :: p, h, c, hc => by
    rw [runLen_cons] at h
    by_cases hb : classOf (b.toNat : Int) = k
    · rw [if_pos hb, List.length_cons] at h
      rcases List.mem_cons.1 hc with rfl | hc
      · exact hb
      · exact runLen_len k p (by omega) c hc
    · rw [if_neg hb, List.length_cons] at h; omega
theorem runLen_head (k : Int) (z : List UInt8) (h : ∀ c, z.head? = some c → classOf (c.toNat : Int) ≠ k) : runLen k z = 0 := by
  cases z with
  | nil => rfl
  | cons c z => rw [runLen_cons, if_neg (h c rfl)]
theorem index_app (sub : List UInt8) : ∀ (l z : List UInt8), 0 ≤ Lib.index l sub → Lib.index (l ++ z) sub = Lib.index l sub
  | [], z, h => by
    have : sub = [] := by
      unfold Lib.index at h
      cases sub with
      | nil => rfl
      | cons a s => simp at h
    subst this
    cases z <;> rfl
  | b :: l, z, h => by
    have hf := index_fits (b :: l) sub h
    rw [List.cons_append, index_cons] 
    rw [index_cons] at h hf ⊢
    have e : sub.isPrefixOf (b :: (l ++ z)) = sub.isPrefixOf (b :: l) := by
      have hs : sub.length ≤ (b :: l).length := by omega
      have := isPrefixOf_take sub ((b :: l) ++ z) (b :: l).length hs
      rw [List.take_left' rfl] at this
      exact this.symm
    rw [e]
    by_cases h1 : sub.isPrefixOf (b :: l) = true
    · rw [if_pos h1, if_pos h1]
    · rw [if_neg h1] at h ⊢
      rw [if_neg h1]
      by_cases h3 : Lib.index l sub = -1
      · rw [h3] at h; simp at h
      · have h5 := Lib.index_ge l sub
        rw [index_app sub l z (by omega)]
theorem index_byte (c : UInt8) : ∀ (l z : List UInt8), Lib.index l [c] = -1 → Lib.index (l ++ c :: z) [c] = l.length
  | [], z, _ => by
    rw [List.nil_append, index_cons, if_pos (by simp [List.isPrefixOf])]
    rfl
  | b :: l, z, h => by
    rw [index_cons] at h
    by_cases h1 : ([c] : List UInt8).isPrefixOf (b :: l) = true
    · rw [if_pos h1] at h; cases h
    · rw [if_neg h1] at h
      have h2 : Lib.index l [c] = -1 := by
        by_cases h3 : Lib.index l [c] = -1
        · exact h3
        · have h4 : (Lib.index l [c] == -1) = false := by simpa using h3
          rw [h4] at h
          simp only [Bool.false_eq_true, if_false] at h
          have := Lib.index_ge l [c]
          omega
      have ih := index_byte c l z h2
      have e : ([c] : List UInt8).isPrefixOf (b :: (l ++ c :: z)) = false := by
        simp only [List.isPrefixOf, Bool.and_true] at h1 ⊢
        exact Bool.eq_false_iff.2 h1
      have e2 : ((l.length : Int) == -1) = false := beq_eq_false_iff_ne.2 (by omega)
      rw [List.cons_append, index_cons, e, ih, e2]
      simp
theorem index_is (c : UInt8) : ∀ (l : List UInt8) (e : Nat), Lib.index l [c] = (e : Int) → l[e]? = some c
  | [], e, h => by
    have : Lib.index [] [c] = -1 := rfl
    rw [this] at h; omega
  | b :: l, e, h => by
    rw [index_cons] at h
    by_cases h1 : ([c] : List UInt8).isPrefixOf (b :: l) = true
    · rw [if_pos h1] at h
      obtain rfl : e = 0 := by omega
      simp only [List.isPrefixOf, Bool.and_true, beq_iff_eq] at h1
      rw [h1]; rfl
    · rw [if_neg h1] at h
      by_cases h3 : Lib.index l [c] = -1
      · rw [h3] at h; simp at h
      · have h4 : (Lib.index l [c] == -1) = false := by simpa using h3
        rw [h4] at h
        simp only [Bool.false_eq_true, if_false] at h
        have := Lib.index_ge l [c]
        obtain ⟨q, rfl⟩ : ∃ q, e = q + 1 := ⟨e - 1, by omega⟩
        rw [List.getElem?_cons_succ]
        exact index_is c l q (by omega)
theorem textScan_app : ∀ (l z : List UInt8) (p : Bool) (i : Nat), 0 < textScan l p i → textScan (l ++ z) p i = textScan l p i
  | [], z, p, i, h => by simp [textScan] at h
  | b :: l, z, p, i, h => by
    rw [List.cons_append]
    unfold textScan at h ⊢
    by_cases h1 : b = 10
    · rw [if_pos h1] at h; omega
    · rw [if_neg h1] at h ⊢
      rw [if_neg h1]
      by_cases h2 : p = true
      · rw [if_pos h2] at h ⊢
        rw [if_pos h2, textScan_app l z _ _ h]
      · rw [if_neg h2] at h ⊢
        rw [if_neg h2]
        by_cases h3 : b = 34
        · rw [if_pos h3, if_pos h3]
        · rw [if_neg h3] at h ⊢
          rw [if_neg h3, textScan_app l z _ _ h]
theorem Okz.line (k : Int) (p z : List UInt8) : Okz k p (10 :: z) := ⟨fun hk c h => by
  have : c = 10 := by simpa using h.symm
  subst this
  have e : classOf ((10 : UInt8).toNat : Int) = 2 := by decide
  rw [e]; omega, fun _ _ c h => by simpa using h.symm⟩
theorem cut_whole {p : List UInt8} (h : (Lib.cut p [10]).1.length = p.length) (hp : p ≠ []) : Lib.index p [10] = -1 := by
  have hlow := Lib.index_ge p [10]
  by_cases h0 : 0 ≤ Lib.index p [10]
  · exfalso
    have hfit := index_fits p [10] h0
    unfold Lib.cut at h
    rw [if_pos h0] at h
    simp at h hfit
    omega
  · omega
theorem noteLen_app {p z : List UInt8} (h : noteLen p = p.length) (hp : p ≠ []) (hz : p.head? = some 35 → ∀ c, z.head? = some c → c = 10) : noteLen (p ++ z) = p.length := by
  have hh : (p ++ z).head? = p.head? := by cases p with | nil => exact absurd rfl hp | cons a p => rfl
  have hl : 0 < p.length := List.length_pos_iff.2 hp
  unfold noteLen at h ⊢
  rw [hh]
  by_cases h1 : p.head? = some 35
  · rw [if_pos h1] at h ⊢
    have hi := cut_whole h hp
    cases z with
    | nil => rw [List.append_nil]; exact h
    | cons c z =>
      obtain rfl := hz h1 c rfl
      have := index_byte 10 p z hi
      unfold Lib.cut
      rw [this, if_pos (by omega)]
      simp
  · rw [if_neg h1] at h ⊢
    by_cases h2 : Lib.hasPrefix p [47, 42] = true
    · rw [if_pos h2] at h
      have h3 : Lib.hasPrefix (p ++ z) [47, 42] = true := by
        unfold Lib.hasPrefix at h2 ⊢
        rw [List.isPrefixOf_iff_prefix] at h2 ⊢
        exact h2.trans (List.prefix_append _ _)
      rw [if_pos h3]
      by_cases h4 : Lib.index (p.drop 2) [42, 47] < 0
      · rw [if_pos h4] at h; omega
      · rw [if_neg h4] at h
        have h5 : (p ++ z).drop 2 = p.drop 2 ++ z := by
          rw [List.drop_append_of_le_length (by omega)]
        rw [h5, index_app _ _ _ (by omega), if_neg h4]
        exact h
    · rw [if_neg h2] at h; omega
theorem next_app {p z : List UInt8} {k : Int} (h : nextTok p = (k, p.length)) (hp : p ≠ []) (hk : k ≠ 7) (hz : Okz k p z) : nextTok (p ++ z) = (k, p.length) := by
  cases p with
  | nil => exact absurd rfl hp
  | cons b p =>
    rw [List.cons_append]
    unfold nextTok at h ⊢
    simp only [] at h ⊢
    by_cases h1 : classOf (b.toNat : Int) = 1 ∨ classOf (b.toNat : Int) = 4
    · rw [if_pos h1] at h ⊢
      obtain ⟨rfl, h2⟩ := Prod.mk.inj h
      rw [List.length_cons] at h2
      have h3 := runLen_len (classOf (b.toNat : Int)) p (by omega)
      rw [runLen_all _ p z h3, runLen_head _ z (hz.1 h1), List.length_cons]
      congr 1; omega
    · rw [if_neg h1] at h ⊢
      by_cases h3 : classOf (b.toNat : Int) = 3
      · rw [if_pos h3] at h ⊢
        by_cases h4 : noteLen (b :: p) = 0
        · rw [if_pos h4] at h; exact absurd (Prod.mk.inj h).1.symm hk
        · rw [if_neg h4] at h
          obtain ⟨rfl, h5⟩ := Prod.mk.inj h
          have := noteLen_app (z := z) h5 (by simp) (fun g => hz.2 g rfl)
          rw [List.cons_append] at this
          rw [this, if_neg (by simp)]
      · rw [if_neg h3] at h ⊢
        by_cases h5 : classOf (b.toNat : Int) = 5
        · rw [if_pos h5] at h ⊢
          by_cases h4 : textLen (b :: p) = 0
          · rw [if_pos h4] at h; exact absurd (Prod.mk.inj h).1.symm hk
          · rw [if_neg h4] at h
            obtain ⟨rfl, h6⟩ := Prod.mk.inj h
            have e : textLen (b :: (p ++ z)) = textLen (b :: p) := by
              unfold textLen at h4 ⊢
              exact textScan_app p z false 1 (by simpa using Nat.pos_of_ne_zero h4)
            rw [e, if_neg h4, h6]
        · rw [if_neg h5] at h ⊢
          exact h
/-- where a token ends, what stands behind it is such -/
theorem next_ok {l : List UInt8} (hl : l ≠ []) : Okz (nextTok l).1 (l.take (nextTok l).2) (l.drop (nextTok l).2) := by
  cases l with
  | nil => exact absurd rfl hl
  | cons b r =>
    have hfit := nextTok_fits (b :: r) (by simp)
    constructor
    · intro hk c hc
      unfold nextTok at hk hc ⊢
      simp only [] at hk hc ⊢
      by_cases h1 : classOf (b.toNat : Int) = 1 ∨ classOf (b.toNat : Int) = 4
      · rw [if_pos h1] at hc ⊢
        simp only [] at hc ⊢
        rw [Nat.add_comm, List.drop_succ_cons] at hc
        clear hk hfit hl
        generalize classOf (b.toNat : Int) = k at *
        have : ∀ r : List UInt8, (r.drop (runLen k r)).head? = some c → classOf (c.toNat : Int) ≠ k := by
          intro r
          induction r with
          | nil => intro h; simp at h
          | cons a r ih =>
            intro h
            rw [runLen_cons] at h
            by_cases ha : classOf (a.toNat : Int) = k
            · rw [if_pos ha, Nat.add_comm, List.drop_succ_cons] at h
              exact ih h
            · rw [if_neg ha] at h
              have : a = c := by simpa using h
              rw [← this]; exact ha
        exact this r hc
      · exfalso
        rw [if_neg h1] at hk
        by_cases h3 : classOf (b.toNat : Int) = 3
        · rw [if_pos h3] at hk
          split at hk <;> simp at hk
        · rw [if_neg h3] at hk
          by_cases h5 : classOf (b.toNat : Int) = 5
          · rw [if_pos h5] at hk
            split at hk <;> simp at hk
          · rw [if_neg h5] at hk; exact h1 hk
    · intro hh hk c hc
      have hb : b = 35 := by
        have : ((b :: r).take (nextTok (b :: r)).2).head? = some b := by
          obtain ⟨q, hq⟩ : ∃ q, (nextTok (b :: r)).2 = q + 1 := ⟨(nextTok (b :: r)).2 - 1, by omega⟩
          rw [hq]; rfl
        rw [this] at hh
        exact Option.some.inj hh
      subst hb
      have e3 : classOf ((35 : UInt8).toNat : Int) = 3 := by decide
      unfold nextTok at hk hc
      simp only [e3] at hk hc
      rw [if_neg (by omega), if_pos trivial] at hk hc
      by_cases h4 : noteLen (35 :: r) = 0
      · rw [if_pos h4] at hk; simp at hk
      · rw [if_neg h4] at hc
        simp only [] at hc
        unfold noteLen at hc
        rw [if_pos (show (35 :: r).head? = some 35 from rfl)] at hc
        have hlow := Lib.index_ge (35 :: r) [10]
        by_cases h0 : 0 ≤ Lib.index (35 :: r) [10]
        · obtain ⟨e, he⟩ := Int.eq_ofNat_of_zero_le h0
          have hfi := index_fits (35 :: r) [10] h0
          have hcl : (Lib.cut (35 :: r) [10]).1.length = e := by
            unfold Lib.cut
            rw [if_pos h0, he]
            rw [List.length_take]
            simp at hfi ⊢; omega
          rw [hcl, List.head?_drop, index_is 10 _ e he] at hc
          exact (Option.some.inj hc).symm
        · have hcl : (Lib.cut (35 :: r) [10]).1 = 35 :: r := by unfold Lib.cut; rw [if_neg h0]
          rw [hcl, List.drop_length] at hc
          simp at hc
/-- a token alone -/
theorem next_alone {l : List UInt8} (hl : l ≠ []) : nextTok (l.take (nextTok l).2) = ((nextTok l).1, (l.take (nextTok l).2).length) := by
  have hp := List.length_pos_iff.2 hl
  have hf := nextTok_fits l hp
  rw [nextTok_take l _ hp (Nat.le_refl _) (.inr rfl), List.length_take, Nat.min_eq_left hf.2]

theorem TokSeq.sol {z a : List UInt8} (h : TokSeq z a) : ∀ o, solO (a ++ z) o = solO a o ++ solO z (o + a.length) := by
  induction h with
  | nil => intro o; simp [solO_nil]
  | cons p a k hp h hk hz ha ih =>
    intro o
    have h1 : Okz k p a := by
      cases a with
      | nil => exact Okz.nil k p
      | cons c a => exact hz.head rfl
    rw [List.append_assoc, solO_tok o hp (next_app h hp hk hz), solO_tok o hp (next_app h hp hk h1), ih, List.append_assoc, List.length_append, Nat.add_assoc]
/-- a text without bad tokens ahead of a line's end -/
theorem tokSeq_line (z : List UInt8) : ∀ (n : Nat) (a : List UInt8), a.length ≤ n → (∀ t ∈ toksFrom a 0, t.1 ≠ 7) → TokSeq (10 :: z) a := by
  intro n
  induction n with
  | zero =>
    intro a h _
    obtain rfl : a = [] := List.eq_nil_of_length_eq_zero (by omega)
    exact .nil
  | succ n ih =>
    intro a h hk
    by_cases ha : a = []
    · subst ha; exact .nil
    have hp := List.length_pos_iff.2 ha
    have hf := nextTok_fits a hp
    rw [toksFrom_step a 0 hp, List.drop_zero, Nat.zero_add] at hk
    have hd := toks_drop a (nextTok a).2 a.length 0 (by omega)
    rw [Nat.add_zero] at hd
    have hne : a.take (nextTok a).2 ≠ [] := by
      intro e
      have := congrArg List.length e
      rw [List.length_take, List.length_nil] at this
      omega
    have := TokSeq.cons (z := 10 :: z) (a.take (nextTok a).2) (a.drop (nextTok a).2) (nextTok a).1 hne (next_alone ha) (hk _ List.mem_cons_self) (by
      by_cases he : a.drop (nextTok a).2 = []
      · rw [he]; exact Okz.line _ _ _
      · have h1 := next_ok ha
        refine h1.head ?_
        cases hx : a.drop (nextTok a).2 with
        | nil => exact absurd hx he
        | cons c t => rfl) (ih _ (by rw [List.length_drop]; omega) (fun t ht => by
        rw [hd] at ht
        obtain ⟨u, hu, rfl⟩ := List.mem_map.1 ht
        exact hk u (List.mem_cons_of_mem _ hu)))
    rwa [List.take_append_drop] at this
theorem solO_blank (c : UInt8) (r : List UInt8) (o : Nat) (hc : classOf (c.toNat : Int) = 1) : solO (c :: r) o = solO r (o + 1) := by
  have hn : ∀ (c : UInt8) (r : List UInt8), classOf (c.toNat : Int) = 1 → nextTok (c :: r) = (1, 1 + runLen 1 r) := fun c r hc => by
    unfold nextTok
    simp only [hc]
    rw [if_pos (.inl trivial)]
  have hs : solidK 1 = false := by decide
  rw [solO_step _ o (by simp), hn c r hc]
  simp only [hs, Bool.false_eq_true, if_false, List.nil_append]
  rw [Nat.add_comm 1 (runLen 1 r), List.drop_succ_cons]
  cases r with
  | nil => rfl
  | cons d r =>
    by_cases hd : classOf (d.toNat : Int) = 1
    · rw [runLen_cons, if_pos hd, solO_step (d :: r) (o + 1) (by simp), hn d r hd]
      simp only [hs, Bool.false_eq_true, if_false, List.nil_append]
      congr 1; omega
    · rw [runLen_cons, if_neg hd]; rfl
theorem solO_line (r : List UInt8) (o : Nat) : solO (10 :: r) o = solO r (o + 1) := by
  have h : nextTok (10 :: r) = (2, 1) := by
    unfold nextTok
    have e : classOf ((10 : UInt8).toNat : Int) = 2 := by decide
    simp only [e]
    rw [if_neg (by decide), if_neg (by decide), if_neg (by decide)]
  rw [solO_step _ o (by simp), h]
  rfl
theorem solO_mark (c : UInt8) (r : List UInt8) (o : Nat) (hc : classOf (c.toNat : Int) = 6) : solO (c :: r) o = (6, o, [c]) :: solO r (o + 1) := by
  have h : nextTok (c :: r) = (6, 1) := by
    unfold nextTok
    simp only [hc]
    rw [if_neg (by decide), if_neg (by decide), if_neg (by decide)]
  rw [solO_step _ o (by simp), h]
  rfl
theorem next_word {p z : List UInt8} (hp : p ≠ []) (h : ∀ c ∈ p, classOf (c.toNat : Int) = 4) (hz : ∀ c, z.head? = some c → classOf (c.toNat : Int) ≠ 4) : nextTok (p ++ z) = (4, p.length) := by
  cases p with
  | nil => exact absurd rfl hp
  | cons b p =>
    rw [List.cons_append]
    unfold nextTok
    simp only [h b List.mem_cons_self]
    rw [if_pos (.inr trivial), runLen_all 4 p z (fun c hc => h c (List.mem_cons_of_mem _ hc)), runLen_head 4 z hz, List.length_cons]
    congr 1; omega
theorem solO_word {p z : List UInt8} (o : Nat) (hp : p ≠ []) (h : ∀ c ∈ p, classOf (c.toNat : Int) = 4) (hz : ∀ c, z.head? = some c → classOf (c.toNat : Int) ≠ 4) : solO (p ++ z) o = (4, o, p) :: solO z (o + p.length) := by
  rw [solO_tok o hp (next_word hp h hz)]
  rfl
end Go.Proofs.YtldhmfkojaekfaaGreatDoor
