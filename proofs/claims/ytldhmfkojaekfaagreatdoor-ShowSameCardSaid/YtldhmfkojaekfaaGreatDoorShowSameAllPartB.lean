/-
  The contract of utf.Size. No conditions.
  Plain laws on codes of runes: what is decoded, where codes begin, which texts are good. No conditions.
-/
import Derived.Shelf.Strings.BuilderRune
import Derived.Test.YtldhmfkojaekfaaGreatDoorProg
import Derived.WalkLawsBesides
import Derived.Deep.DeepFit
import Derived.Lib.MapLaws
import Derived.Lib.QuoteLoop
import Derived.Test.YtldhmfkojaekfaaGreatDoorShowSameAllPartA
namespace Go.Proofs.YtldhmfkojaekfaaGreatDoor
open Go.RowKit Gx

/-- a scalar -/
def good (r : Int) : Bool := decide (0 ≤ r) && decide (r ≤ 1114111) && !(decide (55296 ≤ r) && decide (r ≤ 57343))
/-- how many bytes a rune's code has; 0: it has none -/
def runeSize (r : Int) : Int := if good r then (if r < 128 then 1 else if r < 2048 then 2 else if r < 65536 then 3 else 4) else 0

theorem good_iff (r : Int) : good r = true ↔ 0 ≤ r ∧ r ≤ 1114111 ∧ (r < 55296 ∨ 57343 < r) := by
  unfold good
  simp only [Bool.and_eq_true, Bool.not_eq_true', Bool.and_eq_false_iff, decide_eq_true_eq, decide_eq_false_iff_not]
  omega

def SizePost (r : Int) (w : World) (e : Ending) (w' : World) : Prop := e = .returned (.int .i64 (runeSize r)) ∧ w = w'

set_option maxHeartbeats 400000 in
theorem size_any (r : Int) (w : World) : Calls Tryz.prog 139 #[.int .i32 r] w (SizePost r w) := by
  by_cases h0 : r < 0
  · have e : runeSize r = 0 := by unfold runeSize; rw [if_neg (by rw [good_iff]; omega)]
    go_enter Tryz.func139, Tryz.ntmps139
    go_wp2
    go_ret
    exact ⟨by rw [e]; rfl, rfl⟩
  by_cases h1 : 1114111 < r
  · have e : runeSize r = 0 := by unfold runeSize; rw [if_neg (by rw [good_iff]; omega)]
    go_enter Tryz.func139, Tryz.ntmps139
    go_wp2
    go_ret
    exact ⟨by rw [e]; rfl, rfl⟩
  by_cases h2 : 55296 ≤ r ∧ r ≤ 57343
  · have e : runeSize r = 0 := by unfold runeSize; rw [if_neg (by rw [good_iff]; omega)]
    obtain ⟨h2, h3⟩ := h2
    go_enter Tryz.func139, Tryz.ntmps139
    go_wp2
    go_ret
    exact ⟨by rw [e]; rfl, rfl⟩
  have hg : good r = true := by rw [good_iff]; omega
  have e : runeSize r = if r < 128 then 1 else if r < 2048 then 2 else if r < 65536 then 3 else 4 := by unfold runeSize; rw [if_pos hg]
  have E := Lib.hid e
  clear e hg
  by_cases h3 : 55296 ≤ r
  · have h4 : 57343 < r := by omega
    clear h2
    by_cases h5 : r < 65536
    · have e : runeSize r = 3 := by rw [E.out, if_neg (by omega), if_neg (by omega), if_pos h5]
      go_enter Tryz.func139, Tryz.ntmps139
      go_wp2
      go_ret
      exact ⟨by rw [e]; rfl, rfl⟩
    · have e : runeSize r = 4 := by rw [E.out, if_neg (by omega), if_neg (by omega), if_neg h5]
      go_enter Tryz.func139, Tryz.ntmps139
      go_wp2
      go_ret
      exact ⟨by rw [e]; rfl, rfl⟩
  · clear h2
    by_cases h5 : r < 128
    · have e : runeSize r = 1 := by rw [E.out, if_pos h5]
      go_enter Tryz.func139, Tryz.ntmps139
      go_wp2
      go_ret
      exact ⟨by rw [e]; rfl, rfl⟩
    by_cases h6 : r < 2048
    · have e : runeSize r = 2 := by rw [E.out, if_neg h5, if_pos h6]
      go_enter Tryz.func139, Tryz.ntmps139
      go_wp2
      go_ret
      exact ⟨by rw [e]; rfl, rfl⟩
    · have e : runeSize r = 3 := by rw [E.out, if_neg h5, if_neg h6, if_pos (by omega)]
      go_enter Tryz.func139, Tryz.ntmps139
      go_wp2
      go_ret
      exact ⟨by rw [e]; rfl, rfl⟩

def TruePost (w : World) (e : Ending) (w' : World) : Prop := e = .returned (.bool true) ∧ Below w.heap.size w w'

/-- the text of runes -/
def encs (l : List Int) : List UInt8 := l.flatMap Lib.encodeRune
def textOf (l : List Int) : List UInt8 := if l.all good then encs l else []
def textErr (l : List Int) : Int := if l.all good then 0 else 3

theorem encs_le (l : List Int) : (encs l).length ≤ 4 * l.length := by
  induction l with
  | nil => simp [encs]
  | cons r l ih =>
    have h4 := Lib.runeCells_le r
    rw [Lib.runeCells_length] at h4
    simp only [encs, List.flatMap_cons, List.length_append, List.length_cons] at ih ⊢
    omega
theorem encs_take_succ (l : List Int) (k : Nat) (h : k < l.length) : encs (l.take (k + 1)) = encs (l.take k) ++ Lib.encodeRune (l.getD k 0) := by
  unfold encs
  rw [List.take_succ_eq_append_getElem h, List.flatMap_append]
  congr 1
  simp [List.getD, List.getElem?_eq_getElem h]

end Go.Proofs.YtldhmfkojaekfaaGreatDoor
namespace Go.Proofs.YtldhmfkojaekfaaGreatDoor
open Go.RowKit Gx

theorem byteNat (z : Int) (h0 : 0 ≤ z) (h1 : z < 256) : (z.toNat.toUInt8).toNat = z.toNat := by
  show z.toNat % 256 = z.toNat
  omega

theorem dN2 (n b2 b3 r : Nat) (h0 : 128 ≤ r) (h1 : r ≤ 2047) (hn : 1 < n) : Lib.decodeN n (192 + r / 64) (128 + r % 64) b2 b3 = (r, 2) := by
  unfold Lib.decodeN
  rw [if_neg (by omega), if_pos (by omega), if_pos (by omega)]
  congr 1; omega
theorem dN3 (n b3 r : Nat) (h0 : 2048 ≤ r) (h1 : r ≤ 65535) (h2 : r < 55296 ∨ 57343 < r) (hn : 2 < n) : Lib.decodeN n (224 + r / 4096) (128 + r / 64 % 64) (128 + r % 64) b3 = (r, 3) := by
  have e : (224 + r / 4096) % 16 * 4096 + (128 + r / 64 % 64) % 64 * 64 + (128 + r % 64) % 64 = r := by omega
  unfold Lib.decodeN
  rw [if_neg (by omega), if_neg (by omega), if_pos (by omega), e, if_pos (by omega)]
theorem dN4 (n r : Nat) (h0 : 65536 ≤ r) (h1 : r ≤ 1114111) (hn : 3 < n) : Lib.decodeN n (240 + r / 262144) (128 + r / 4096 % 64) (128 + r / 64 % 64) (128 + r % 64) = (r, 4) := by
  have e : (240 + r / 262144) % 8 * 262144 + (128 + r / 4096 % 64) % 64 * 4096 + (128 + r / 64 % 64) % 64 * 64 + (128 + r % 64) % 64 = r := by omega
  unfold Lib.decodeN
  rw [if_neg (by omega), if_neg (by omega), if_neg (by omega), if_pos (by omega), e, if_pos (by omega)]

/-- a rune's code is decoded to it, whatever stands behind -/
theorem decode_enc (r : Int) (hg : good r = true) (x : List UInt8) : Lib.decodeL (Lib.encodeRune r ++ x) = (r.toNat, (Lib.encodeRune r).length) := by
  rw [good_iff] at hg
  obtain ⟨r, rfl⟩ := Int.eq_ofNat_of_zero_le hg.1
  rw [Lib.decodeL_N, Int.toNat_natCast]
  unfold Lib.encodeRune
  by_cases r1 : (r : Int) ≤ 127
  · rw [Lib.encodeRuneZ_one hg.1 r1]
    simp only [List.map_cons, List.map_nil, List.cons_append, List.nil_append, List.getD_cons_zero, List.length_cons, List.length_nil]
    rw [byteNat _ (by omega) (by omega), Lib.decodeN_ascii _ _ _ _ _ (by omega)]
    simp
  by_cases r2 : (r : Int) ≤ 2047
  · rw [Lib.encodeRuneZ_two (by omega) r2]
    simp only [List.map_cons, List.map_nil, List.cons_append, List.nil_append, List.getD_cons_zero, List.getD_cons_succ, List.length_cons, List.length_nil]
    rw [byteNat _ (by omega) (by omega), byteNat _ (by omega) (by omega), show (192 + (r : Int) / 64).toNat = 192 + r / 64 by omega, show (128 + (r : Int) % 64).toNat = 128 + r % 64 by omega]
    exact dN2 _ _ _ r (by omega) (by omega) (by omega)
  by_cases r3 : (r : Int) ≤ 65535
  · rw [Lib.encodeRuneZ_three (by omega)]
    simp only [List.map_cons, List.map_nil, List.cons_append, List.nil_append, List.getD_cons_zero, List.getD_cons_succ, List.length_cons, List.length_nil]
    rw [byteNat _ (by omega) (by omega), byteNat _ (by omega) (by omega), byteNat _ (by omega) (by omega), show (224 + (r : Int) / 4096).toNat = 224 + r / 4096 by omega,
      show (128 + (r : Int) / 64 % 64).toNat = 128 + r / 64 % 64 by omega, show (128 + (r : Int) % 64).toNat = 128 + r % 64 by omega]
    exact dN3 _ _ r (by omega) (by omega) (by omega) (by omega)
  · rw [Lib.encodeRuneZ_four (by omega) (by omega)]
    simp only [List.map_cons, List.map_nil, List.cons_append, List.nil_append, List.getD_cons_zero, List.getD_cons_succ, List.length_cons, List.length_nil]
    rw [byteNat _ (by omega) (by omega), byteNat _ (by omega) (by omega), byteNat _ (by omega) (by omega), byteNat _ (by omega) (by omega), show (240 + (r : Int) / 262144).toNat = 240 + r / 262144 by omega,
      show (128 + (r : Int) / 4096 % 64).toNat = 128 + r / 4096 % 64 by omega, show (128 + (r : Int) / 64 % 64).toNat = 128 + r / 64 % 64 by omega, show (128 + (r : Int) % 64).toNat = 128 + r % 64 by omega]
    exact dN4 _ r (by omega) (by omega) (by omega)

theorem enc_len (r : Int) : 1 ≤ (Lib.encodeRune r).length ∧ (Lib.encodeRune r).length ≤ 4 := by
  unfold Lib.encodeRune
  rw [List.length_map]
  exact Lib.encodeRuneZ_length r

/-- what no rune's code begins with -/
theorem not_bad (r : Int) (hg : good r = true) (x : List UInt8) : Lib.decodeL (Lib.encodeRune r ++ x) ≠ (65533, 1) := by
  rw [decode_enc r hg]
  intro h
  obtain ⟨h1, h2⟩ := Prod.mk.inj h
  rw [good_iff] at hg
  have : r = 65533 := by omega
  subst this
  rw [show (Lib.encodeRune 65533).length = 3 from by decide] at h2
  omega

/-- a good text -/
def okText (l : List UInt8) : Prop := ∃ rs : List Int, rs.all good = true ∧ l = encs rs

theorem encs_cons (r : Int) (rs : List Int) : encs (r :: rs) = Lib.encodeRune r ++ encs rs := rfl
theorem encs_append (a b : List Int) : encs (a ++ b) = encs a ++ encs b := by unfold encs; rw [List.flatMap_append]
theorem okText_nil : okText [] := ⟨[], rfl, rfl⟩
theorem encs_nil {rs : List Int} (h : encs rs = []) : rs = [] := by
  cases rs with
  | nil => rfl
  | cons r rs =>
    rw [encs_cons] at h
    have := (enc_len r).1
    rw [(List.append_eq_nil_iff.1 h).1] at this
    simp at this

theorem okText_code (r : Int) (hg : good r = true) (x : List UInt8) : okText (Lib.encodeRune r ++ x) ↔ okText x := by
  constructor
  · rintro ⟨rs, h1, h2⟩
    cases rs with
    | nil =>
      have := (enc_len r).1
      rw [(List.append_eq_nil_iff.1 h2).1] at this
      simp at this
    | cons r2 rs =>
      rw [List.all_cons, Bool.and_eq_true] at h1
      rw [encs_cons] at h2
      have d1 := decode_enc r hg x
      have d2 := decode_enc r2 h1.1 (encs rs)
      rw [h2, d2] at d1
      obtain ⟨e1, e2⟩ := Prod.mk.inj d1
      have := (List.append_inj h2 e2.symm).2
      exact ⟨rs, h1.2, this⟩
  · rintro ⟨rs, h1, h2⟩
    exact ⟨r :: rs, by rw [List.all_cons, hg, h1]; rfl, by rw [encs_cons, h2]⟩

theorem okText_encs (rs : List Int) (hg : rs.all good = true) (x : List UInt8) : okText (encs rs ++ x) ↔ okText x := by
  induction rs with
  | nil => exact Iff.rfl
  | cons r rs ih =>
    rw [List.all_cons, Bool.and_eq_true] at hg
    rw [encs_cons, List.append_assoc, okText_code r hg.1, ih hg.2]

theorem decodeL_pos (l : List UInt8) : 1 ≤ (Lib.decodeL l).2 := by rw [Lib.decodeL_N]; exact Lib.decodeN_ge1 _ _ _ _ _

/-- a step of reading -/
theorem okText_step (l : List UInt8) (hne : l ≠ []) : okText l ↔ Lib.decodeL l ≠ (65533, 1) ∧ okText (l.drop (Lib.decodeL l).2) := by
  constructor
  · rintro ⟨rs, h1, rfl⟩
    cases rs with
    | nil => exact absurd rfl hne
    | cons r rs =>
      rw [List.all_cons, Bool.and_eq_true] at h1
      rw [encs_cons]
      refine ⟨not_bad r h1.1 _, ?_⟩
      rw [decode_enc r h1.1, List.drop_left]
      exact ⟨rs, h1.2, rfl⟩
  · rintro ⟨h1, h2⟩
    have he := Lib.encode_decode l hne (fun h => h1 (Prod.ext h.1 h.2))
    have hv := Lib.decodeN_valid l.length (l.getD 0 0).toNat (l.getD 1 0).toNat (l.getD 2 0).toNat (l.getD 3 0).toNat (UInt8.toNat_lt _)
    rw [← Lib.decodeL_N] at hv
    have hg : good ((Lib.decodeL l).1 : Int) = true := by rw [good_iff]; omega
    have e : l = Lib.encodeRune ((Lib.decodeL l).1 : Int) ++ l.drop (Lib.decodeL l).2 := by rw [he, List.take_append_drop]
    rw [e]
    exact (okText_code _ hg _).2 h2

/-- does a code begin there? -/
def begins : List Int → Int → Bool
  | [], _ => false
  | r :: rs, k => (k == 0) || begins rs (k - ((Lib.encodeRune r).length : Int))

theorem begins_neg : ∀ (rs : List Int) (k : Int), k < 0 → begins rs k = false
  | [], _, _ => rfl
  | r :: rs, k, h => by
    unfold begins
    rw [begins_neg rs _ (by omega)]
    simp; omega
theorem begins_snoc : ∀ (xs : List Int) (r k : Int), begins (xs ++ [r]) k = (begins xs k || (((encs xs).length : Int) == k))
  | [], r, k => by
    show ((k == 0) || false) = (false || (((0 : Nat) : Int) == k))
    rw [Bool.or_false, Bool.false_or, Bool.eq_iff_iff]
    simp; omega
  | a :: xs, r, k => by
    show ((k == 0) || begins (xs ++ [r]) _) = (((k == 0) || begins xs _) || _)
    rw [begins_snoc xs r, Bool.or_assoc, encs_cons, List.length_append]
    congr 2
    rw [Bool.eq_iff_iff]
    simp; omega

/-- the bytes of a code, but its first, begin none -/
theorem inner (r : Int) (hg : good r = true) (k : Nat) (h0 : 0 < k) (h1 : k < (Lib.encodeRune r).length) : ∃ b t, (Lib.encodeRune r).drop k = b :: t ∧ b.toNat / 64 = 2 := by
  rw [good_iff] at hg
  have key : ∀ z : Int, 0 ≤ z → z < 64 → ((128 + z).toNat.toUInt8).toNat / 64 = 2 := by
    intro z z0 z1
    rw [byteNat _ (by omega) (by omega)]; omega
  unfold Lib.encodeRune at h1 ⊢
  by_cases r1 : r ≤ 127
  · rw [Lib.encodeRuneZ_one hg.1 r1] at h1; simp at h1; omega
  by_cases r2 : r ≤ 2047
  · rw [Lib.encodeRuneZ_two (by omega) r2] at h1 ⊢
    simp at h1
    obtain rfl : k = 1 := by omega
    exact ⟨_, _, rfl, key _ (by omega) (by omega)⟩
  by_cases r3 : r ≤ 65535
  · rw [Lib.encodeRuneZ_three (by omega)] at h1 ⊢
    simp at h1
    obtain rfl | rfl : k = 1 ∨ k = 2 := by omega
    · exact ⟨_, _, rfl, key _ (by omega) (by omega)⟩
    · exact ⟨_, _, rfl, key _ (by omega) (by omega)⟩
  · rw [Lib.encodeRuneZ_four (by omega) (by omega)] at h1 ⊢
    simp at h1
    obtain rfl | rfl | rfl : k = 1 ∨ k = 2 ∨ k = 3 := by omega
    · exact ⟨_, _, rfl, key _ (by omega) (by omega)⟩
    · exact ⟨_, _, rfl, key _ (by omega) (by omega)⟩
    · exact ⟨_, _, rfl, key _ (by omega) (by omega)⟩

theorem okText_cont (b : UInt8) (t : List UInt8) (h : b.toNat / 64 = 2) : ¬ okText (b :: t) := by
  rw [okText_step _ (by simp)]
  rintro ⟨h1, -⟩
  apply h1
  rw [Lib.decodeL_N, List.getD_cons_zero, Lib.decodeN_cont _ _ _ _ _ h]

/-- THOMPSON, PIKE -/
theorem sync_drop : ∀ (rs : List Int) (k : Nat), rs.all good = true → k < (encs rs).length → (okText ((encs rs).drop k) ↔ begins rs k = true)
  | [], k, _, h => by simp [encs] at h
  | r :: rs, k, hg, h => by
    have hg0 := hg
    rw [List.all_cons, Bool.and_eq_true] at hg
    rw [encs_cons] at h ⊢
    rw [List.length_append] at h
    unfold begins
    by_cases k0 : k = 0
    · subst k0
      simp only [List.drop_zero]
      refine ⟨fun _ => by simp, fun _ => ⟨r :: rs, hg0, rfl⟩⟩
    by_cases k1 : k < (Lib.encodeRune r).length
    · obtain ⟨b, t, e1, e2⟩ := inner r hg.1 k (by omega) k1
      rw [List.drop_append_of_le_length (by omega), e1, List.cons_append, begins_neg rs _ (by omega)]
      refine ⟨fun hc => absurd hc (okText_cont _ _ e2), fun hc => ?_⟩
      simp at hc; omega
    · have ih := sync_drop rs (k - (Lib.encodeRune r).length) hg.2 (by omega)
      rw [List.drop_append, List.drop_eq_nil_of_le (by omega), List.nil_append, ih, show (((k - (Lib.encodeRune r).length : Nat) : Int)) = (k : Int) - ((Lib.encodeRune r).length : Int) by omega]
      have : ((k : Int) == 0) = false := by simp; omega
      rw [this, Bool.false_or]

theorem sync_take : ∀ (rs : List Int) (k : Nat), rs.all good = true → k < (encs rs).length → (okText ((encs rs).take k) ↔ begins rs k = true)
  | [], k, _, h => by simp [encs] at h
  | r :: rs, k, hg, h => by
    rw [List.all_cons, Bool.and_eq_true] at hg
    rw [encs_cons] at h ⊢
    rw [List.length_append] at h
    unfold begins
    by_cases k0 : k = 0
    · subst k0
      simp only [List.take_zero]
      exact ⟨fun _ => by simp, fun _ => okText_nil⟩
    by_cases k1 : k < (Lib.encodeRune r).length
    · rw [List.take_append_of_le_length (by omega), begins_neg rs _ (by omega)]
      refine ⟨fun hc => ?_, fun hc => by simp at hc; omega⟩
      exfalso
      obtain ⟨ts, t1, t2⟩ := hc
      cases ts with
      | nil =>
        have := congrArg List.length t2
        rw [List.length_take, Nat.min_eq_left (by omega)] at this
        exact k0 this
      | cons r2 ts =>
        rw [List.all_cons, Bool.and_eq_true] at t1
        have d1 := decode_enc r hg.1 []
        have e : Lib.encodeRune r ++ [] = Lib.encodeRune r2 ++ (encs ts ++ (Lib.encodeRune r).drop k) := by
          rw [List.append_nil, ← List.append_assoc, ← encs_cons, ← t2, List.take_append_drop]
        rw [e, decode_enc r2 t1.1] at d1
        have e3 := (Prod.mk.inj d1).2
        have := congrArg List.length t2
        rw [List.length_take, encs_cons, List.length_append] at this
        omega
    · have ih := sync_take rs (k - (Lib.encodeRune r).length) hg.2 (by omega)
      rw [List.take_append, List.take_of_length_le (by omega), okText_code r hg.1, ih, show (((k - (Lib.encodeRune r).length : Nat) : Int)) = (k : Int) - ((Lib.encodeRune r).length : Int) by omega]
      have : ((k : Int) == 0) = false := by simp; omega
      rw [this, Bool.false_or]
end Go.Proofs.YtldhmfkojaekfaaGreatDoor
