/-
  Plain law: texts between quotes. No conditions.
-/
import Derived.Test.YtopfkelhgffomaaDoorUtf8Law
import Derived.Test.YtopfkelhgffomaaDoorHexDig
namespace Go.Proofs.YtopfkelhgffomaaDoor
open Go.RowKit Gx

def uOf (s : List UInt8) : Option (Int × Nat) :=
  if Lib.hasPrefix s [117, 123] = true then
    if Lib.indexByte (s.drop 2) 125 < 1 ∨ 6 < Lib.indexByte (s.drop 2) 125 then none
    else match hexVal ((s.drop 2).take (Lib.indexByte (s.drop 2) 125).toNat) 0 with
      | none => none
      | some n => if good (n : Int) = true then some ((n : Int), 3 + (Lib.indexByte (s.drop 2) 125).toNat) else none
  else none
/-- behind a stroke: what it says, and its bytes -/
def escOf (s : List UInt8) : Option (Int × Nat) :=
  match s with
  | [] => none
  | c :: t =>
    if c = 34 ∨ c = 92 ∨ c = 47 then some ((c.toNat : Int), 1)
    else if c = 110 then some (10, 1) else if c = 116 then some (9, 1) else if c = 114 then some (13, 1)
    else uOf (c :: t)
def more (r : Int) (n : Nat) (x : Option (List Int × Nat)) : Option (List Int × Nat) := x.map fun p => (r :: p.1, n + p.2)
/-- what stands behind the first quote -/
def unqF : Nat → List UInt8 → Option (List Int × Nat)
  | 0, _ => none
  | _ + 1, [] => none
  | f + 1, b :: t =>
    if b = 34 then some ([], 1)
    else if b = 10 then none
    else if b = 92 then
      match escOf t with
      | none => none
      | some (r, n) => more r (1 + n) (unqF f (t.drop n))
    else if Lib.decodeL (b :: t) = (65533, 1) then none
    else more ((Lib.decodeL (b :: t)).1 : Int) (Lib.decodeL (b :: t)).2 (unqF f ((b :: t).drop (Lib.decodeL (b :: t)).2))
def unquote (q : List UInt8) : Option (List Int × Nat) :=
  if Lib.hasPrefix q [34] = true then (unqF q.length (q.drop 1)).map fun p => (p.1, p.2 + 1) else none
def quoteR (r : Int) : List UInt8 :=
  if r = 34 ∨ r = 92 then 92 :: Lib.encodeRune r
  else if r = 10 then [92, 110] else if r = 9 then [92, 116] else if r = 13 then [92, 114]
  else if r < 32 ∨ r = 127 then [92, 117, 123] ++ hexText r.natAbs ++ [125]
  else Lib.encodeRune r
def quotes (rs : List Int) : List UInt8 := rs.flatMap quoteR
def quoteOf (rs : List Int) : List UInt8 := 34 :: (quotes rs ++ [34])

theorem uOf_good {s : List UInt8} {r : Int} {n : Nat} (h : uOf s = some (r, n)) : good r = true ∧ 1 ≤ n ∧ n ≤ s.length := by
  unfold uOf at h
  split at h
  · split at h
    · cases h
    · rename_i hk
      split at h
      · cases h
      · split at h
        · rename_i hg
          obtain ⟨rfl, rfl⟩ := Prod.mk.inj (Option.some.inj h)
          have := indexByte_bound 125 (s.drop 2)
          rw [List.length_drop] at this
          exact ⟨hg, by omega, by omega⟩
        · cases h
  · cases h
theorem escOf_good {s : List UInt8} {r : Int} {n : Nat} (h : escOf s = some (r, n)) : good r = true ∧ 1 ≤ n ∧ n ≤ s.length := by
  unfold escOf at h
  split at h
  · cases h
  rename_i c t
  rw [List.length_cons]
  split at h
  · rename_i hc
    obtain ⟨rfl, rfl⟩ := Prod.mk.inj (Option.some.inj h)
    exact ⟨by rcases hc with rfl | rfl | rfl <;> decide, by omega, by omega⟩
  split at h
  · obtain ⟨rfl, rfl⟩ := Prod.mk.inj (Option.some.inj h); exact ⟨by decide, by omega, by omega⟩
  split at h
  · obtain ⟨rfl, rfl⟩ := Prod.mk.inj (Option.some.inj h); exact ⟨by decide, by omega, by omega⟩
  split at h
  · obtain ⟨rfl, rfl⟩ := Prod.mk.inj (Option.some.inj h); exact ⟨by decide, by omega, by omega⟩
  · have := uOf_good h
    rwa [List.length_cons] at this
theorem hasPrefix_take {s p : List UInt8} (m : Nat) (h : Lib.hasPrefix s p = true) (hm : p.length ≤ m) : Lib.hasPrefix (s.take m) p = true := by
  unfold Lib.hasPrefix at *
  rw [List.isPrefixOf_iff_prefix] at *
  obtain ⟨t, rfl⟩ := h
  exact ⟨t.take (m - p.length), by rw [List.take_append, List.take_of_length_le hm]⟩
theorem uOf_take {s : List UInt8} {r : Int} {n : Nat} (h : uOf s = some (r, n)) (m : Nat) (hm : n ≤ m) : uOf (s.take m) = some (r, n) := by
  have h0 := h
  unfold uOf at h
  split at h
  · rename_i hp
    split at h
    · cases h
    · rename_i hk
      split at h
      · cases h
      · rename_i v hv
        split at h
        · rename_i hg
          obtain ⟨rfl, rfl⟩ := Prod.mk.inj (Option.some.inj h)
          obtain ⟨k, hkk⟩ : ∃ k : Nat, Lib.indexByte (s.drop 2) 125 = (k : Int) := ⟨(Lib.indexByte (s.drop 2) 125).toNat, by omega⟩
          rw [hkk, Int.toNat_natCast] at hm hv
          have e : (s.take m).drop 2 = (s.drop 2).take (m - 2) := List.drop_take
          have e2 := indexByte_take 125 (s.drop 2) k (m - 2) hkk (by omega)
          have e3 : ((s.drop 2).take (m - 2)).take k = (s.drop 2).take k := by rw [List.take_take, Nat.min_eq_left (by omega)]
          unfold uOf
          rw [if_pos (hasPrefix_take m hp (by show 2 ≤ m; omega)), e, e2, Int.toNat_natCast, e3, if_neg (by omega), hv, hkk, Int.toNat_natCast]
          simp only
          rw [if_pos hg]
        · cases h
  · cases h
theorem escOf_take {s : List UInt8} {r : Int} {n : Nat} (h : escOf s = some (r, n)) (m : Nat) (hm : n ≤ m) : escOf (s.take m) = some (r, n) := by
  have h1 := (escOf_good h).2.1
  obtain ⟨m, rfl⟩ : ∃ k, m = k + 1 := ⟨m - 1, by omega⟩
  cases s with
  | nil => cases h
  | cons c t =>
    have hu := fun h => uOf_take (s := c :: t) (r := r) (n := n) h (m + 1) hm
    rw [List.take_succ_cons] at hu ⊢
    unfold escOf at h ⊢
    simp only at h ⊢
    split at h
    · rename_i hc; rw [if_pos hc]; exact h
    rename_i c1
    rw [if_neg c1]
    split at h
    · rename_i hc; rw [if_pos hc]; exact h
    rename_i c2
    rw [if_neg c2]
    split at h
    · rename_i hc; rw [if_pos hc]; exact h
    rename_i c3
    rw [if_neg c3]
    split at h
    · rename_i hc; rw [if_pos hc]; exact h
    rename_i c4
    rw [if_neg c4]
    exact hu h

theorem more_some {r : Int} {n : Nat} {x : Option (List Int × Nat)} {rs : List Int} {k : Nat} (h : more r n x = some (rs, k)) : ∃ ts j, x = some (ts, j) ∧ rs = r :: ts ∧ k = n + j := by
  unfold more at h
  obtain ⟨⟨ts, j⟩, h1, h2⟩ := Option.map_eq_some_iff.1 h
  obtain ⟨rfl, rfl⟩ := Prod.mk.inj h2
  exact ⟨ts, j, h1, rfl, rfl⟩
theorem decode_len (l : List UInt8) (hne : l ≠ []) : (Lib.decodeL l).2 ≤ l.length := by
  rw [Lib.decodeL_N]
  exact Lib.decodeN_width_le _ _ _ _ _ (List.length_pos_iff.2 hne)
theorem decode_take {l : List UInt8} (hne : l ≠ []) (h : Lib.decodeL l ≠ (65533, 1)) (m : Nat) (hm : (Lib.decodeL l).2 ≤ m) : Lib.decodeL (l.take m) = Lib.decodeL l := by
  have he := Lib.encode_decode l hne (fun h2 => h (Prod.ext h2.1 h2.2))
  have hv := Lib.decodeN_valid l.length (l.getD 0 0).toNat (l.getD 1 0).toNat (l.getD 2 0).toNat (l.getD 3 0).toNat (UInt8.toNat_lt _)
  rw [← Lib.decodeL_N] at hv
  have hg : good ((Lib.decodeL l).1 : Int) = true := by rw [good_iff]; omega
  have hl : (Lib.encodeRune ((Lib.decodeL l).1 : Int)).length = (Lib.decodeL l).2 := by
    rw [he, List.length_take, Nat.min_eq_left (decode_len l hne)]
  have e : l.take m = Lib.encodeRune ((Lib.decodeL l).1 : Int) ++ (l.take m).drop (Lib.decodeL l).2 := by
    rw [he]
    conv => lhs; rw [← List.take_append_drop (Lib.decodeL l).2 (l.take m)]
    rw [List.take_take, Nat.min_eq_left hm]
  rw [e, decode_enc _ hg, hl]
  simp

theorem unqF_good : ∀ (f : Nat) (l : List UInt8) (rs : List Int) (k : Nat), unqF f l = some (rs, k) → rs.all good = true ∧ 1 ≤ k ∧ k ≤ l.length ∧ l.getD (k - 1) 0 = 34
  | 0, l, rs, k, h => by cases h
  | f + 1, [], rs, k, h => by cases h
  | f + 1, b :: t, rs, k, h => by
    unfold unqF at h
    split at h
    · rename_i hb
      obtain ⟨rfl, rfl⟩ := Prod.mk.inj (Option.some.inj h)
      exact ⟨rfl, by omega, by simp, hb⟩
    split at h
    · cases h
    split at h
    · split at h
      · cases h
      · rename_i r n he
        obtain ⟨ts, j, h1, rfl, rfl⟩ := more_some h
        obtain ⟨g1, g2, g3⟩ := escOf_good he
        obtain ⟨i1, i2, i3, i4⟩ := unqF_good f _ ts j h1
        rw [List.length_drop] at i3
        refine ⟨by rw [List.all_cons, g1, i1]; rfl, by omega, by rw [List.length_cons]; omega, ?_⟩
        rw [← i4]
        simp only [List.getD, List.getElem?_drop]
        rw [show 1 + n + j - 1 = (n + (j - 1)) + 1 by omega, List.getElem?_cons_succ]
    split at h
    · cases h
    · rename_i hd
      obtain ⟨ts, j, h1, rfl, rfl⟩ := more_some h
      have hv := Lib.decodeN_valid (b :: t).length ((b :: t).getD 0 0).toNat ((b :: t).getD 1 0).toNat ((b :: t).getD 2 0).toNat ((b :: t).getD 3 0).toNat (UInt8.toNat_lt _)
      rw [← Lib.decodeL_N] at hv
      have hg : good ((Lib.decodeL (b :: t)).1 : Int) = true := by rw [good_iff]; omega
      have hp := decodeL_pos (b :: t)
      have hle := decode_len (b :: t) (by simp)
      obtain ⟨i1, i2, i3, i4⟩ := unqF_good f _ ts j h1
      generalize (Lib.decodeL (b :: t)).2 = n at *
      rw [List.length_drop] at i3
      refine ⟨by rw [List.all_cons, hg, i1]; rfl, by omega, by omega, ?_⟩
      rw [← i4]
      simp only [List.getD, List.getElem?_drop]
      rw [show n + j - 1 = n + (j - 1) by omega]
/-- nothing shorter at the front is read -/
theorem unqF_cut : ∀ (f : Nat) (l : List UInt8) (rs : List Int) (k : Nat), unqF f l = some (rs, k) → ∀ g, unqF g (l.take (k - 1)) = none
  | 0, l, rs, k, h, g => by cases h
  | f + 1, [], rs, k, h, g => by cases h
  | f + 1, b :: t, rs, k, h, 0 => rfl
  | f + 1, b :: t, rs, k, h, g + 1 => by
    unfold unqF at h
    split at h
    · obtain ⟨rfl, rfl⟩ := Prod.mk.inj (Option.some.inj h)
      rfl
    rename_i b1
    split at h
    · cases h
    rename_i b2
    split at h
    · rename_i b3
      split at h
      · cases h
      · rename_i r n he
        obtain ⟨ts, j, h1, rfl, rfl⟩ := more_some h
        obtain ⟨g1, g2, g3⟩ := escOf_good he
        have hj := (unqF_good f _ ts j h1).2.1
        have ih := unqF_cut f _ ts j h1 g
        rw [show 1 + n + j - 1 = (n + (j - 1)) + 1 by omega, List.take_succ_cons]
        unfold unqF
        rw [if_neg b1, if_neg b2, if_pos b3, escOf_take he (n + (j - 1)) (by omega)]
        simp only
        rw [List.drop_take, show n + (j - 1) - n = j - 1 by omega, ih]; rfl
    rename_i b3
    split at h
    · cases h
    · rename_i hd
      obtain ⟨ts, j, h1, rfl, rfl⟩ := more_some h
      have hj := (unqF_good f _ ts j h1).2.1
      have hp := decodeL_pos (b :: t)
      have ih := unqF_cut f _ ts j h1 g
      have hdt := decode_take (l := b :: t) (by simp) hd ((Lib.decodeL (b :: t)).2 + j - 1) (by omega)
      obtain ⟨n, hn⟩ : ∃ n, n = (Lib.decodeL (b :: t)).2 := ⟨_, rfl⟩
      rw [← hn] at hdt hp ih
      obtain ⟨m, hm⟩ : ∃ m, n + j - 1 = m + 1 := ⟨n + j - 2, by omega⟩
      rw [← hn, hm] 
      rw [hm, List.take_succ_cons] at hdt
      rw [List.take_succ_cons]
      unfold unqF
      rw [if_neg b1, if_neg b2, if_neg b3, hdt, if_neg hd, ← hn]
      have e : (b :: t.take m).drop n = ((b :: t).drop n).take (j - 1) := by
        rw [← List.take_succ_cons, List.drop_take, show m + 1 - n = j - 1 by omega]
      rw [e, ih]; rfl

theorem enc_ascii (r : Int) (h0 : 0 ≤ r) (h1 : r ≤ 127) : Lib.encodeRune r = [r.toNat.toUInt8] := by
  unfold Lib.encodeRune; rw [Lib.encodeRuneZ_one h0 h1]; rfl
/-- a rune's first byte is itself, or no sign's -/
theorem enc_high (r : Int) (hg : good r = true) (h : 128 ≤ r) : ∀ b ∈ Lib.encodeRune r, 128 ≤ b.toNat := by
  rw [good_iff] at hg
  have key : ∀ z : Int, 128 ≤ z → z < 256 → 128 ≤ (z.toNat.toUInt8).toNat := by
    intro z h0 h1; rw [byteNat z (by omega) h1]; omega
  intro b hb
  unfold Lib.encodeRune at hb
  by_cases r2 : r ≤ 2047
  · rw [Lib.encodeRuneZ_two (by omega) r2] at hb
    simp only [List.map_cons, List.map_nil, List.mem_cons, List.not_mem_nil, or_false] at hb
    rcases hb with rfl | rfl <;> exact key _ (by omega) (by omega)
  by_cases r3 : r ≤ 65535
  · rw [Lib.encodeRuneZ_three (by omega)] at hb
    simp only [List.map_cons, List.map_nil, List.mem_cons, List.not_mem_nil, or_false] at hb
    rcases hb with rfl | rfl | rfl <;> exact key _ (by omega) (by omega)
  · rw [Lib.encodeRuneZ_four (by omega) (by omega)] at hb
    simp only [List.map_cons, List.map_nil, List.mem_cons, List.not_mem_nil, or_false] at hb
    rcases hb with rfl | rfl | rfl | rfl <;> exact key _ (by omega) (by omega)
/-- a rune that is told as it is -/
theorem unqF_rune (f : Nat) (r : Int) (hg : good r = true) (hp : ¬ (r < 32) ∧ r ≠ 34 ∧ r ≠ 92) (y : List UInt8) :
    unqF (f + 1) (Lib.encodeRune r ++ y) = more r (Lib.encodeRune r).length (unqF f y) := by
  have hd := decode_enc r hg y
  have hb := not_bad r hg y
  obtain ⟨b, t, hbt, h34, h10, h92⟩ : ∃ b t, Lib.encodeRune r = b :: t ∧ b ≠ 34 ∧ b ≠ 10 ∧ b ≠ 92 := by
    rcases Int.lt_or_le r 128 with h | h
    · refine ⟨_, [], enc_ascii r (by omega) (by omega), ?_⟩
      have hn := byteNat r (by omega) (by omega)
      refine ⟨?_, ?_, ?_⟩ <;> (intro hc; rw [hc] at hn; revert hn; simp; omega)
    · have hh := enc_high r hg h
      have hl := (enc_len r).1
      cases he : Lib.encodeRune r with
      | nil => rw [he] at hl; simp at hl
      | cons b t =>
        have := hh b (by rw [he]; simp)
        refine ⟨b, t, rfl, ?_, ?_, ?_⟩ <;> (rintro rfl; revert this; decide)
  rw [hbt, List.cons_append] at hd hb ⊢
  conv => lhs; unfold unqF
  rw [if_neg h34, if_neg h10, if_neg h92, if_neg hb, hd]
  simp only
  rw [← List.cons_append, List.drop_left]
  rw [good_iff] at hg
  rw [show ((r.toNat : Nat) : Int) = r by omega]
theorem unqF_esc (f : Nat) (t y : List UInt8) (r : Int) (n : Nat) (h : escOf (t ++ y) = some (r, n)) (hn : n = t.length) : unqF (f + 1) (92 :: (t ++ y)) = more r (1 + n) (unqF f y) := by
  conv => lhs; unfold unqF
  rw [if_neg (by decide), if_neg (by decide), if_pos rfl, h]
  simp only
  rw [hn, List.drop_left]
theorem unqF_quoteR (f : Nat) (r : Int) (hg : good r = true) (y : List UInt8) : unqF (f + 1) (quoteR r ++ y) = more r (quoteR r).length (unqF f y) := by
  have hg2 := hg
  rw [good_iff] at hg2
  unfold quoteR
  by_cases c1 : r = 34 ∨ r = 92
  · rw [if_pos c1, List.cons_append, enc_ascii r (by omega) (by omega)]
    rw [unqF_esc f [r.toNat.toUInt8] y r 1 (by rcases c1 with rfl | rfl <;> rfl) rfl]; rfl
  rw [if_neg c1]
  by_cases c2 : r = 10
  · rw [if_pos c2]; subst c2; exact unqF_esc f [110] y 10 1 rfl rfl
  rw [if_neg c2]
  by_cases c3 : r = 9
  · rw [if_pos c3]; subst c3; exact unqF_esc f [116] y 9 1 rfl rfl
  rw [if_neg c3]
  by_cases c4 : r = 13
  · rw [if_pos c4]; subst c4; exact unqF_esc f [114] y 13 1 rfl rfl
  rw [if_neg c4]
  by_cases c5 : r < 32 ∨ r = 127
  · rw [if_pos c5]
    obtain ⟨n, rfl⟩ := Int.eq_ofNat_of_zero_le hg2.1
    have hn : n < 128 := by omega
    obtain ⟨x1, x2, x3, x4⟩ := hexText_facts n hn
    rw [show ((n : Int)).natAbs = n from rfl]
    have e : [92, 117, 123] ++ hexText n ++ [125] ++ y = 92 :: (([117, 123] ++ hexText n ++ [125]) ++ y) := by simp
    have hi : Lib.indexByte ((([117, 123] ++ hexText n ++ [125]) ++ y).drop 2) 125 = ((hexText n).length : Int) := by
      have : (([117, 123] ++ hexText n ++ [125]) ++ y).drop 2 = hexText n ++ 125 :: y := by simp
      rw [this]; exact indexByte_skip 125 _ _ (fun x hx => (x4 x hx).2.1)
    have hes : escOf (([117, 123] ++ hexText n ++ [125]) ++ y) = some ((n : Int), 3 + (hexText n).length) := by
      have : escOf (([117, 123] ++ hexText n ++ [125]) ++ y) = uOf (([117, 123] ++ hexText n ++ [125]) ++ y) := rfl
      rw [this]
      unfold uOf
      rw [hi, Int.toNat_natCast, if_pos (by simp [Lib.hasPrefix, List.isPrefixOf]), if_neg (by omega)]
      have e2 : ((([117, 123] ++ hexText n ++ [125]) ++ y).drop 2).take (hexText n).length = hexText n := by simp
      rw [e2, x1]
      simp only
      rw [if_pos hg]
    rw [e, unqF_esc f _ y _ _ hes (by simp; omega)]
    congr 1
    simp; omega
  · rw [if_neg c5]
    exact unqF_rune f r hg ⟨by omega, by omega, by omega⟩ y
/-- what was told is read, whatever stands behind -/
theorem unqF_quotes : ∀ (rs : List Int) (f : Nat) (x : List UInt8), rs.all good = true → rs.length < f → unqF f (quotes rs ++ 34 :: x) = some (rs, (quotes rs).length + 1)
  | [], f, x, _, hf => by
    obtain ⟨g, rfl⟩ : ∃ g, f = g + 1 := ⟨f - 1, by omega⟩
    rfl
  | r :: rs, f, x, hg, hf => by
    obtain ⟨g, rfl⟩ : ∃ g, f = g + 1 := ⟨f - 1, by omega⟩
    rw [List.all_cons, Bool.and_eq_true] at hg
    have e : quotes (r :: rs) = quoteR r ++ quotes rs := rfl
    rw [e, List.append_assoc, unqF_quoteR g r hg.1, unqF_quotes rs g x hg.2 (by rw [List.length_cons] at hf; omega)]
    unfold more
    simp
    omega
theorem quoteR_len (r : Int) : 1 ≤ (quoteR r).length := by
  have := (enc_len r).1
  unfold quoteR
  repeat' split
  all_goals simp
  all_goals omega
theorem quotes_len (rs : List Int) : rs.length ≤ (quotes rs).length := by
  induction rs with
  | nil => simp
  | cons r rs ih =>
    have := quoteR_len r
    have e : quotes (r :: rs) = quoteR r ++ quotes rs := rfl
    rw [e, List.length_append, List.length_cons]; omega
theorem unquote_quote (rs : List Int) (hg : rs.all good = true) (x : List UInt8) : unquote (quoteOf rs ++ x) = some (rs, (quoteOf rs).length) := by
  unfold unquote quoteOf
  have h := quotes_len rs
  rw [if_pos (by simp [Lib.hasPrefix, List.isPrefixOf])]
  have e : (34 :: (quotes rs ++ [34]) ++ x).drop 1 = quotes rs ++ 34 :: x := by simp
  rw [e, unqF_quotes rs _ x hg (by simp; omega)]
  simp

theorem okText_ascii (c : UInt8) (hc : c.toNat < 128) (x : List UInt8) : okText (c :: x) ↔ okText x := by
  have h := okText_code (c.toNat : Int) (by rw [good_iff]; omega) x
  rw [enc_ascii _ (by omega) (by omega)] at h
  have e : ((c.toNat : Int)).toNat.toUInt8 = c := by simp
  rw [e] at h
  exact h
theorem okText_asciis (l : List UInt8) (hl : ∀ c ∈ l, c.toNat < 128) (x : List UInt8) : okText (l ++ x) ↔ okText x := by
  induction l with
  | nil => exact Iff.rfl
  | cons c l ih =>
    rw [List.cons_append, okText_ascii c (hl c (by simp)), ih (fun c hc => hl c (by simp [hc]))]
theorem quoteR_ok (r : Int) (hg : good r = true) (x : List UInt8) : okText (quoteR r ++ x) ↔ okText x := by
  have hg2 := hg
  rw [good_iff] at hg2
  unfold quoteR
  split
  · rw [List.cons_append, okText_ascii 92 (by decide), okText_code r hg]
  split
  · exact okText_asciis _ (by decide) x
  split
  · exact okText_asciis _ (by decide) x
  split
  · exact okText_asciis _ (by decide) x
  split
  · refine okText_asciis _ ?_ x
    obtain ⟨-, -, -, x4⟩ := hexText_facts r.natAbs (by omega)
    intro c hc
    simp only [List.mem_append, List.mem_cons, List.not_mem_nil, or_false] at hc
    rcases hc with (hc | hc) | hc
    · rcases hc with rfl | rfl | rfl <;> decide
    · exact (x4 c hc).1
    · subst hc; decide
  · exact okText_code r hg x
theorem quoteR_ten (r : Int) (hg : good r = true) : (10 : UInt8) ∉ quoteR r := by
  have hg2 := hg
  rw [good_iff] at hg2
  have henc : r ≠ 10 → (10 : UInt8) ∉ Lib.encodeRune r := by
    intro h10 hm
    rcases Int.lt_or_le r 128 with h | h
    · rw [enc_ascii r (by omega) (by omega), List.mem_singleton] at hm
      have hn := byteNat r (by omega) (by omega)
      rw [← hm] at hn
      revert hn; simp; omega
    · have := enc_high r hg h 10 hm
      revert this; decide
  unfold quoteR
  split
  · rename_i hc
    intro hm
    rcases List.mem_cons.1 hm with h | h
    · revert h; decide
    · exact henc (by omega) h
  rename_i c1
  split
  · decide
  rename_i c2
  split
  · decide
  split
  · decide
  split
  · obtain ⟨-, -, -, x4⟩ := hexText_facts r.natAbs (by omega)
    intro hc
    simp only [List.mem_append, List.mem_cons, List.not_mem_nil, or_false] at hc
    rcases hc with (hc | hc) | hc
    · revert hc; decide
    · exact (x4 10 hc).2.2 rfl
    · revert hc; decide
  · exact henc c2
theorem quotes_ok (rs : List Int) (hg : rs.all good = true) (x : List UInt8) : okText (quotes rs ++ x) ↔ okText x := by
  induction rs with
  | nil => exact Iff.rfl
  | cons r rs ih =>
    rw [List.all_cons, Bool.and_eq_true] at hg
    have e : quotes (r :: rs) = quoteR r ++ quotes rs := rfl
    rw [e, List.append_assoc, quoteR_ok r hg.1, ih hg.2]
theorem quoteOf_ok (rs : List Int) (hg : rs.all good = true) : okText (quoteOf rs) ∧ (10 : UInt8) ∉ quoteOf rs := by
  refine ⟨?_, ?_⟩
  · unfold quoteOf
    rw [okText_ascii 34 (by decide), quotes_ok rs hg, okText_ascii 34 (by decide)]
    exact okText_nil
  · unfold quoteOf quotes
    intro hm
    simp only [List.mem_cons, List.mem_append, List.mem_flatMap, List.not_mem_nil, or_false] at hm
    rcases hm with h | ⟨r, hr, h⟩ | h
    · revert h; decide
    · exact quoteR_ten r (List.all_eq_true.1 hg r hr) h
    · revert h; decide
/-- what is said between quotes -/
theorem unquote_facts {q : List UInt8} {rs : List Int} {n : Nat} (h : unquote q = some (rs, n)) : rs.all good = true ∧ 2 ≤ n ∧ n ≤ q.length ∧ q.getD (n - 1) 0 = 34 ∧ unquote (q.take (n - 1)) = none := by
  unfold unquote at h
  split at h
  · rename_i hp
    obtain ⟨⟨ts, k⟩, h1, h2⟩ := Option.map_eq_some_iff.1 h
    obtain ⟨rfl, rfl⟩ := Prod.mk.inj h2
    obtain ⟨i1, i2, i3, i4⟩ := unqF_good _ _ _ _ h1
    rw [List.length_drop] at i3
    refine ⟨i1, by omega, by omega, ?_, ?_⟩
    · rw [← i4]
      simp only [List.getD, List.getElem?_drop]
      rw [show k + 1 - 1 = 1 + (k - 1) by omega]
    · unfold unquote
      rw [if_pos (hasPrefix_take _ hp (by show 1 ≤ _; omega)), List.drop_take, show k + 1 - 1 - 1 = k - 1 by omega, unqF_cut _ _ _ _ h1]
      rfl
  · cases h
theorem quoteR_le (r : Int) (hg : good r = true) : (quoteR r).length ≤ 6 * (Lib.encodeRune r).length := by
  have h1 := enc_len r
  rw [good_iff] at hg
  unfold quoteR
  repeat' split
  all_goals simp
  all_goals first | omega | (rename_i hc; obtain ⟨-, -, x3, -⟩ := hexText_facts r.natAbs (by omega); omega)
theorem quotes_le (rs : List Int) (hg : rs.all good = true) : (quotes rs).length ≤ 6 * (encs rs).length := by
  induction rs with
  | nil => simp [quotes]
  | cons r rs ih =>
    rw [List.all_cons, Bool.and_eq_true] at hg
    have := quoteR_le r hg.1
    have := ih hg.2
    have e : quotes (r :: rs) = quoteR r ++ quotes rs := rfl
    rw [e, encs_cons, List.length_append, List.length_append]; omega
theorem quoteOf_le (rs : List Int) (hg : rs.all good = true) : (quoteOf rs).length ≤ 6 * (encs rs).length + 2 := by
  have := quotes_le rs hg
  unfold quoteOf
  simp
  omega
end Go.Proofs.YtopfkelhgffomaaDoor
