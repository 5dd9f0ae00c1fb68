/-
  The contract of big.Pow. Conditions: the power is at most 1000.
-/
import Derived.Test.YtmieegcnfnoiiaaDoorBigMul
import Derived.Test.YtmieegcnfnoiiaaDoorBigSub2
import Derived.Test.YtmieegcnfnoiiaaDoorBigLawsWalk
import Derived.Lib.RabinKarpLaws
namespace Go.Proofs.YtmieegcnfnoiiaaDoor
open Go.RowKit Gx
set_option maxRecDepth 100000

theorem pow_fits (b e : Nat) (hb : b < 4294967296) : Fits (b ^ e) (e + 1) := by
  unfold Fits
  have h1 : b ^ e ≤ 4294967296 ^ e := Nat.pow_le_pow_left (Nat.le_of_lt hb) e
  have h2 : 4294967296 ^ e < 4294967296 ^ (e + 1) := Nat.pow_lt_pow_right (by decide) (by omega)
  omega

theorem canon_one (b : Nat) (hb : b < 4294967296) (h0 : b ≠ 0) : canon b = [(b : Int)] := by
  rw [canon_pos b h0, Nat.mod_eq_of_lt hb, Nat.div_eq_of_lt hb]; rfl

theorem bval_one (b : Nat) : bval [(b : Int)] = b := by simp [bval]

theorem words_one (b : Nat) (hb : b < 4294967296) : Words [(b : Int)] := by
  intro x hx; simp at hx; omega

/-- a round -/
theorem pow_odd (b N i : Nat) (h : N / 2 ^ i % 2 = 1) : b ^ (N % 2 ^ i) * b ^ 2 ^ i = b ^ (N % 2 ^ (i + 1)) := by
  rw [Nat.mod_pow_succ, h, Nat.mul_one, Nat.pow_add]
theorem pow_even (b N i : Nat) (h : N / 2 ^ i % 2 = 0) : b ^ (N % 2 ^ i) = b ^ (N % 2 ^ (i + 1)) := by
  rw [Nat.mod_pow_succ, h, Nat.mul_zero, Nat.add_zero]
theorem pow_sq (b i : Nat) : b ^ 2 ^ i * b ^ 2 ^ i = b ^ 2 ^ (i + 1) := by
  rw [← Nat.pow_add, Nat.pow_succ, Nat.mul_two]
theorem pow_half (N i : Nat) : N / 2 ^ i / 2 = N / 2 ^ (i + 1) := by
  rw [Nat.div_div_eq_div_mul, Nat.pow_succ]

theorem rd_alloc_one (w : World) (e : TypeId) (b : Nat) (hb : b < 4294967296) : Rd .u32 (w.alloc (Obj.cells #[Value.int IntKind.u32 (b : Int)] e)) (some ⟨w.heap.size, 0, none⟩) 1 [(b : Int)] := by
  refine ⟨by simp, by omega, wf_words (words_one b hb), fun h => by simp at h, fun a ha hp => ?_⟩
  obtain rfl := Option.some.inj ha
  refine ⟨rfl, by simp, fun j hj => ?_⟩
  obtain rfl : j = 0 := by simpa using hj
  simp

set_option maxHeartbeats 1000000 in
theorem bigPow_any (b N : Nat) (w : World) (hb : b < 4294967296) (hN : N ≤ 1000) :
    Calls Tryd.prog 13 #[.int .u32 b, .int .i64 N] w (SubPost (b ^ N) w) := by
  go_enter Tryd.func13, Tryd.ntmps13
  have t0 : decide ((N : Int) < 0) = false := decide_eq_false (by omega)
  have t1 : decide ((1000 : Int) < (N : Int)) = false := decide_eq_false (by omega)
  go_wp2_with fail
  obtain ⟨w1, hw1⟩ : ∃ w1 : World, w1 = (w.alloc (Obj.cells #[Value.int IntKind.u32 1] 27)).alloc (Obj.cells #[Value.int IntKind.u32 (b : Int)] 27) := ⟨_, rfl⟩
  have rx : Rd .u32 w1 (some ⟨w.heap.size + 1, 0, none⟩) 1 [(b : Int)] := by
    have h := rd_alloc_one (w.alloc (Obj.cells #[Value.int IntKind.u32 1] 27)) 27 b hb
    rw [hw1]; simpa using h
  have ro : Rd .u32 w1 (some ⟨w.heap.size, 0, none⟩) 1 [1] := by
    have h := rd_alloc_one w 27 1 (by decide)
    rw [hw1]
    exact h.keep ((Below.refl _ _).alloc (Nat.le_refl _) _)
  have hb1 : Below w.heap.size w w1 := by
    rw [hw1]; exact ((Below.refl _ _).alloc (Nat.le_refl _) _).alloc (by simp) _
  rw [← hw1]
  clear hw1
  refine (trimmed_any (some ⟨w.heap.size + 1, 0, none⟩) 1 [(b : Int)] w1 rx (by simp)).mono ?_
  rintro e w' ⟨rfl, rfl⟩
  have RX := Lib.hid rx.trim
  have RO := Lib.hid ro
  rw [bval_one] at RX ⊢
  clear rx ro
  go_wp2_with fail
  go_loopw [1, 6, 7] (fun nn ov xv wr => ∃ (i k : Nat) (ado adx : Option Addr) (capo capx : Nat) (lo lx : List Int), nn = .int .i64 k ∧ ov = .slice ado lo.length capo ∧ xv = .slice adx lx.length capx ∧ k ≤ 1000 ∧
      Hid (k = N / 2 ^ i) ∧ Hid (lo = canon (b ^ (N % 2 ^ i))) ∧ Hid (lx = canon (b ^ 2 ^ i)) ∧ Hid (Rd .u32 wr ado capo lo) ∧ Hid (Rd .u32 wr adx capx lx) ∧ Below w.heap.size w wr)
    (fun nn _ _ _ => (intOf nn).toNat)
  case atStart =>
    refine ⟨0, N, _, _, 1, 1, [1], canon b, rfl, rfl, rfl, hN, ?_, ?_, ?_, RO, RX, hb1⟩
    · show _ = _; rw [Nat.pow_zero, Nat.div_one]
    · show _ = _; rw [Nat.pow_zero, Nat.mod_one, Nat.pow_zero]; rfl
    · show _ = _; rw [Nat.pow_zero, Nat.pow_one]
  case round =>
    clear RO RX hb1
    obtain ⟨i, k, ado, adx, capo, capx, lo, lx, rfl, rfl, rfl, hk, hki, hlo, hlx, ro, rx, hb1⟩ := hrel
    by_cases hk0 : k = 0
    · subst hk0
      have hfin : lo = canon (b ^ N) := by
        have h2 : N < 2 ^ i := by
          rcases Nat.lt_or_ge N (2 ^ i) with h | h
          · exact h
          · have := Nat.div_pos h (Nat.two_pow_pos i)
            rw [← hki.out] at this; omega
        rw [hlo.out, Nat.mod_eq_of_lt h2]
      have HF := Lib.hid hfin
      clear hfin
      go_wp2_with fail
      go_ret2
      exact ⟨ado, capo, by rw [← HF.out]; rfl, by rw [← HF.out]; exact ro.out, hb1⟩
    · have hpos : decide ((0 : Int) < (k : Int)) = true := decide_eq_true (by omega)
      have h2 : 2 ^ i ≤ 1000 := by
        have h3 := hki.out
        have h4 : 0 < N / 2 ^ i := by omega
        have h5 := (Nat.le_div_iff_mul_le (Nat.two_pow_pos i)).1 (show 1 ≤ N / 2 ^ i by omega)
        omega
      have flx : Hid (lx.length ≤ 1048576) := by
        show _ ≤ _; rw [hlx.out]; exact Nat.le_trans (Fits.len (pow_fits b _ hb)) (by omega)
      have flo : Hid (lo.length ≤ 1048576) := by
        have : N % 2 ^ i < 2 ^ i := Nat.mod_lt _ (Nat.two_pow_pos i)
        show _ ≤ _; rw [hlo.out]; exact Nat.le_trans (Fits.len (pow_fits b _ hb)) (by omega)
      have vlx : Hid (bval lx = b ^ 2 ^ i) := by show _ = _; rw [hlx.out, bval_canon]
      have vlo : Hid (bval lo = b ^ (N % 2 ^ i)) := by show _ = _; rw [hlo.out, bval_canon]
      have hh : Hid (k / 2 = N / 2 ^ (i + 1)) := by show _ = _; rw [hki.out, pow_half]
      have hand : bits BinOp.and IntKind.i64 (k : Int) 1 = ((k % 2 : Nat) : Int) := Go.Proofs.and_one k (by omega)
      clear h2
      by_cases hodd : k % 2 = 1
      · rw [hodd] at hand
        have ho : Hid (b ^ (N % 2 ^ i) * b ^ 2 ^ i = b ^ (N % 2 ^ (i + 1))) := pow_odd b N i (by rw [← hki.out]; exact hodd)
        go_wp2_with fail
        refine (mul_two ado adx capo capx lo lx wr _ _ ro.out rx.out vlo.out vlx.out flo.out flx.out).mono ?_
        rintro e w2 ⟨ad2, cap2, rfl, rd2, hb⟩
        have RX := Lib.hid (rx.out.keep hb)
        have HB := Lib.hid (hb1.trans (hb.mono hb1.size))
        rw [ho.out] at rd2 ⊢
        have R2 := Lib.hid rd2
        clear rd2 hb hb1
        go_wp2_with fail
        refine (mul_two adx adx capx capx lx lx w2 _ _ RX.out RX.out vlx.out vlx.out flx.out flx.out).mono ?_
        rintro e w3 ⟨ad3, cap3, rfl, rd3, hb⟩
        have R2' := Lib.hid (R2.out.keep hb)
        have HB' := Lib.hid (HB.out.trans (hb.mono HB.out.size))
        rw [pow_sq] at rd3 ⊢
        have R3 := Lib.hid rd3
        clear rd3 hb
        go_wp2_with fail
        go_roundw
        case rel => exact ⟨i + 1, k / 2, ad2, ad3, cap2, cap3, _, _, by congr 1 <;> omega, rfl, rfl, by omega, hh, rfl, rfl, R2', R3, HB'.out⟩
        case measure => simp [intOf]; omega
      · have h0 : k % 2 = 0 := by omega
        rw [h0] at hand
        have ho : Hid (b ^ (N % 2 ^ i) = b ^ (N % 2 ^ (i + 1))) := pow_even b N i (by rw [← hki.out]; exact h0)
        go_wp2_with fail
        refine (mul_two adx adx capx capx lx lx wr _ _ rx.out rx.out vlx.out vlx.out flx.out flx.out).mono ?_
        rintro e w3 ⟨ad3, cap3, rfl, rd3, hb⟩
        have R2' := Lib.hid (ro.out.keep hb)
        have HB' := Lib.hid (hb1.trans (hb.mono hb1.size))
        rw [pow_sq] at rd3 ⊢
        have R3 := Lib.hid rd3
        clear rd3 hb
        have hlo2 : Hid (lo = canon (b ^ (N % 2 ^ (i + 1)))) := by show _ = _; rw [hlo.out, ho.out]
        go_wp2_with fail
        go_roundw
        case rel => exact ⟨i + 1, k / 2, ado, ad3, capo, cap3, _, _, by congr 1 <;> omega, rfl, rfl, by omega, hh, hlo2, rfl, R2', R3, HB'.out⟩
        case measure => simp [intOf]; omega
end Go.Proofs.YtmieegcnfnoiiaaDoor
