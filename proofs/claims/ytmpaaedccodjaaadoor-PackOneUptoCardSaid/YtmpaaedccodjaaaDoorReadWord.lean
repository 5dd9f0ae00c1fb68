/-
  A word that is read is the number of its eight bytes. No conditions.
-/
import Derived.Test.YtmpaaedccodjaaaDoorReaderChain
namespace Go.Proofs.YtmpaaedccodjaaaDoor
open Go.RowKit Gx

theorem wrap_byte {n : Int} (h0 : 0 ≤ n) (h1 : n < 72057594037927936) : IntKind.u64.wrap (n * 256) = n * 256 := by
  simp [IntKind.wrap, IntKind.bits, IntKind.signed]
  omega
theorem or_byte {n x : Int} (h0 : 0 ≤ n) (h1 : n < 72057594037927936) (x0 : 0 ≤ x) (x1 : x ≤ 255) : bits .or .u64 (IntKind.u64.wrap (n * 256)) x = n * 256 + x := by
  rw [wrap_byte h0 h1, u64_or _ _ (by omega) (by omega) (by omega) (by omega)]
  have e1 : (n * 256).toNat = n.toNat <<< 8 := by rw [Nat.shiftLeft_eq]; omega
  rw [e1, ← Nat.shiftLeft_add_eq_or_of_lt (by omega : x.toNat < 2 ^ 8), Nat.shiftLeft_eq]
  omega
theorem or_in {a x : Int} (x0 : 0 ≤ x) (x1 : x ≤ 255) : 0 ≤ bits .or .u64 (IntKind.u64.wrap a) x ∧ bits .or .u64 (IntKind.u64.wrap a) x ≤ 18446744073709551615 := by
  have hw : 0 ≤ IntKind.u64.wrap a ∧ IntKind.u64.wrap a < 18446744073709551616 := by
    simp [IntKind.wrap, IntKind.bits, IntKind.signed]
    omega
  rw [u64_or _ _ hw.1 hw.2 (by omega) (by omega)]
  have := Nat.or_lt_two_pow (x := (IntKind.u64.wrap a).toNat) (y := x.toNat) (n := 64) (by omega) (by omega)
  omega
theorem bytesL.tail {x : Int} {l : List Int} (h : bytesL (x :: l)) : bytesL l := fun y hy => h y (List.mem_cons_of_mem _ hy)
theorem bytesL.head {x : Int} {l : List Int} (h : bytesL (x :: l)) : 0 ≤ x ∧ x ≤ 255 := h x List.mem_cons_self
theorem rbyte_in {l : List Int} (h : bytesL l) (bad : Bool) : (0 ≤ (rbyte l bad).1 ∧ (rbyte l bad).1 ≤ 255) ∧ bytesL (rbyte l bad).2.1 := by
  cases l with
  | nil => exact ⟨⟨Int.le_refl 0, by show (0 : Int) ≤ 255; decide⟩, h⟩
  | cons x l => exact ⟨h.head, h.tail⟩
theorem rword_in : ∀ (j : Nat) (n : Int) (l : List Int) (bad : Bool), bytesL l → 0 ≤ n → n ≤ 18446744073709551615 → 0 ≤ (rword j n l bad).1 ∧ (rword j n l bad).1 ≤ 18446744073709551615
  | 0, n, l, bad, _, h0, h1 => ⟨h0, h1⟩
  | j + 1, n, l, bad, h, h0, h1 => by
    obtain ⟨⟨x0, x1⟩, hl⟩ := rbyte_in h bad
    obtain ⟨k0, k1⟩ := or_in (a := n * 256) x0 x1
    exact rword_in j _ _ _ hl k0 k1
theorem rword_len : ∀ (j : Nat) (n : Int) (l : List Int) (bad : Bool), (rword j n l bad).2.1.length ≤ l.length
  | 0, n, l, bad => Nat.le_refl _
  | j + 1, n, l, bad => Nat.le_trans (rword_len j _ _ _) (by cases l <;> simp [rbyte])
theorem rword_bad : ∀ (j : Nat) (n : Int) (l : List Int), (rword j n l true).2.2 = true
  | 0, n, l => rfl
  | j + 1, n, [] => rword_bad j _ _
  | j + 1, n, _ :: _ => rword_bad j _ _
theorem rword_short : ∀ (j : Nat) (n : Int) (l : List Int) (bad : Bool), l.length < j → (rword j n l bad).2.2 = true
  | j + 1, n, [], bad, _ => rword_bad j _ _
  | j + 1, n, x :: l, bad, h => rword_short j _ l bad (by simp at h; omega)
/-- eight bytes are read, or the reader is bad -/
theorem rword_told (l : List Int) (bad : Bool) (h : bytesL l) : Told (orBad bad (pword l)) (rword 8 0 l bad).1 (rword 8 0 l bad).2.1 (rword 8 0 l bad).2.2 := by
  cases bad with
  | true => exact rword_bad 8 0 l
  | false =>
    match l, h with
    | a :: b :: c :: d :: e :: f :: g :: i :: l, h =>
      have ha := h.head
      have h := h.tail
      have hb := h.head
      have h := h.tail
      have hc := h.head
      have h := h.tail
      have hd := h.head
      have h := h.tail
      have he := h.head
      have h := h.tail
      have hf := h.head
      have h := h.tail
      have hg := h.head
      have h := h.tail
      have hi := h.head
      have e0 : rword 8 0 (a :: b :: c :: d :: e :: f :: g :: i :: l) false = (((((((a * 256 + b) * 256 + c) * 256 + d) * 256 + e) * 256 + f) * 256 + g) * 256 + i, l, false) := by
        simp only [rword, rbyte]
        rw [or_byte (n := 0) (by omega) (by omega) ha.1 ha.2, show (0 : Int) * 256 + a = a by omega,
          or_byte (n := a) (by omega) (by omega) hb.1 hb.2, or_byte (n := a * 256 + b) (by omega) (by omega) hc.1 hc.2,
          or_byte (n := (a * 256 + b) * 256 + c) (by omega) (by omega) hd.1 hd.2, or_byte (n := ((a * 256 + b) * 256 + c) * 256 + d) (by omega) (by omega) he.1 he.2,
          or_byte (n := (((a * 256 + b) * 256 + c) * 256 + d) * 256 + e) (by omega) (by omega) hf.1 hf.2, or_byte (n := ((((a * 256 + b) * 256 + c) * 256 + d) * 256 + e) * 256 + f) (by omega) (by omega) hg.1 hg.2,
          or_byte (n := (((((a * 256 + b) * 256 + c) * 256 + d) * 256 + e) * 256 + f) * 256 + g) (by omega) (by omega) hi.1 hi.2]
      rw [e0]
      exact ⟨rfl, rfl, rfl⟩
    | [], _ => exact rword_short 8 0 _ _ (by simp)
    | [_], _ => exact rword_short 8 0 _ _ (by simp)
    | [_, _], _ => exact rword_short 8 0 _ _ (by simp)
    | [_, _, _], _ => exact rword_short 8 0 _ _ (by simp)
    | [_, _, _, _], _ => exact rword_short 8 0 _ _ (by simp)
    | [_, _, _, _, _], _ => exact rword_short 8 0 _ _ (by simp)
    | [_, _, _, _, _, _], _ => exact rword_short 8 0 _ _ (by simp)
    | [_, _, _, _, _, _, _], _ => exact rword_short 8 0 _ _ (by simp)
theorem RdS.bytes {n₀ R : Nat} {l : List Int} {bad : Bool} {w : World} (h : RdS n₀ w R l bad) : bytesL l := by
  obtain ⟨⟨ad, c, h1, h2, h3⟩, h4, h5⟩ := h
  intro x hx
  have := h2.wf x hx
  simp [Lit.wf, IntKind.min, IntKind.max, IntKind.signed, IntKind.bits] at this
  exact this
end Go.Proofs.YtmpaaedccodjaaaDoor
