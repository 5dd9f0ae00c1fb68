/-
  The contract of big.byWord: a number divided by a word. Conditions: at most 2^20 words; the divisor is not nought.
-/
import Derived.Test.YtmieegcnfnoiiaaDoorBigMul
import Derived.Test.YtmieegcnfnoiiaaDoorDiv32
namespace Go.Proofs.YtmieegcnfnoiiaaDoor
open Go.RowKit Gx
set_option maxRecDepth 100000

theorem bval_drop (l : List Int) (m : Nat) (h : m < l.length) : bval (l.drop m) = (l.getD m 0).toNat + 4294967296 * bval (l.drop (m + 1)) := by
  rw [List.drop_eq_getElem_cons h]
  simp [bval, List.getD, List.getElem?_eq_getElem h]

def ByWordPost (n d : Nat) (w : World) (e : Ending) (w' : World) : Prop :=
  ∃ ad cap, e = .returned (.tuple #[.slice ad (canon (n / d)).length cap, .int .u32 ((n % d : Nat) : Int)]) ∧ Rd .u32 w' ad cap (canon (n / d)) ∧ Below w.heap.size w w' ∧ ∀ a, ad = some a → w.heap.size ≤ a.block

/-- a round of the division, in numbers -/
theorem byWord_step (out xs : List Int) (m : Nat) (d r x : Int) (hd : 1 ≤ d) (hr : 0 ≤ r) (hx : 0 ≤ x) (hm : m < xs.length) (hl : out.length = xs.length) (ex : x = xs.getD m 0)
    (h : bval (out.drop (m + 1)) * d.toNat + r.toNat = bval (xs.drop (m + 1))) :
    bval ((out.set m ((r * 4294967296 + x) / d)).drop m) * d.toNat + ((r * 4294967296 + x) % d).toNat = bval (xs.drop m) := by
  rw [bval_drop _ _ (by simp; omega), bval_drop xs m hm, ← ex, ← h]
  have e1 : (out.set m ((r * 4294967296 + x) / d)).drop (m + 1) = out.drop (m + 1) := by
    rw [List.drop_set_of_lt (by omega)]
  have e2 : (out.set m ((r * 4294967296 + x) / d)).getD m 0 = (r * 4294967296 + x) / d := by
    simp [List.getD, List.getElem?_set, show m < out.length by omega]
  rw [e1, e2]
  generalize bval (out.drop (m + 1)) = p
  have hq : 0 ≤ (r * 4294967296 + x) / d := Int.ediv_nonneg (by omega) (by omega)
  have hm2 : 0 ≤ (r * 4294967296 + x) % d := Int.emod_nonneg _ (by omega)
  have he := Int.mul_ediv_add_emod (r * 4294967296 + x) d
  generalize (r * 4294967296 + x) / d = q at *
  generalize (r * 4294967296 + x) % d = t at *
  obtain ⟨q, rfl⟩ := Int.eq_ofNat_of_zero_le hq
  obtain ⟨t, rfl⟩ := Int.eq_ofNat_of_zero_le hm2
  obtain ⟨r, rfl⟩ := Int.eq_ofNat_of_zero_le hr
  obtain ⟨x, rfl⟩ := Int.eq_ofNat_of_zero_le hx
  obtain ⟨d, rfl⟩ := Int.eq_ofNat_of_zero_le (show 0 ≤ d by omega)
  simp only [Int.toNat_natCast]
  have he2 : d * q + t = r * 4294967296 + x := by rw [← Int.natCast_mul] at he; omega
  rw [Nat.add_mul, Nat.mul_add, Nat.mul_comm q d]
  have : 4294967296 * p * d = 4294967296 * (p * d) := Nat.mul_assoc _ _ _
  omega

set_option maxHeartbeats 1000000 in
theorem byWord_any (ad : Option Addr) (ca : Nat) (xs : List Int) (d : Int) (w : World) (h : Rd .u32 w ad ca xs) (hl : xs.length ≤ 1048576) (hd : 1 ≤ d) (hd' : d ≤ 4294967295) :
    Calls Tryd.prog 27 #[.slice ad xs.length ca, .int .u32 d] w (ByWordPost (bval xs) d.toNat w) := by
  have hwx := words_of_rd h
  have H := Lib.hid h
  have HWX := Lib.hid hwx
  clear h hwx
  go_enter Tryd.func27, Tryd.ntmps27
  obtain ⟨i0, hi, hz0, hz1, hz2⟩ := info_parts Tryd.info_u32
  have HI := Lib.hid hi
  have HZ0 := Lib.hid hz0
  have HZ1 := Lib.hid hz1
  clear hi hz0 hz1
  go_wp2_with (first
    | (at_make; refine wpList_make_full _ rfl _ _ 29 rfl w.heap.size 27 i0 (.int .u32 0) 1 Tryd.underlying29 HI.out HZ0.out HZ1.out .i64 .i64 _ _ xs.length rfl rfl (by omega) (by omega) (by rw [hz2]; omega) (by unfold maxLen; omega) (Nat.le_refl _) ?_))
  intro w1 hown hg
  have hb : Below w.heap.size w w1 := Gx.grown_below hg (Nat.le_refl _) (by simp)
  rw [madeCells_one] at hown
  clear hg hz2 HI HZ0 HZ1
  obtain ⟨n, hn⟩ : ∃ n, n = xs.length := ⟨_, rfl⟩
  obtain ⟨gb, hgb⟩ : ∃ gb, gb = w.heap.size := ⟨_, rfl⟩
  rw [← hn] at hown hl ⊢
  rw [show Value.slice (some ⟨w.heap.size, 0, none⟩) n n = Value.slice (some ⟨gb, 0, none⟩) n n from by rw [hgb]] at hown ⊢
  have HN := Lib.hid hn; clear hn
  have HGB := Lib.hid hgb; clear hgb
  go_wp2
  go_loopw [7, 8] (fun rv i wr => ∃ (m : Nat) (out : List Int) (r : Int), m ≤ n ∧ i = .int .i64 ((m : Int) - 1) ∧ rv = .int .u32 r ∧ 0 ≤ r ∧ r < d ∧
      wr.ownsRow w.heap.size 27 1 (.slice (some ⟨gb, 0, none⟩) n n) n (out.map (Value.int .u32)) ∧ Hid (out.length = n) ∧ Words out ∧ Hid (bval (out.drop m) * d.toNat + r.toNat = bval (xs.drop m)) ∧ Below w.heap.size w wr)
    (fun _ i _ => (intOf i + 1).toNat)
  case atStart =>
    refine ⟨n, List.replicate n 0, 0, Nat.le_refl _, rfl, rfl, by omega, by omega, hown, by simp [Hid], fun x hx => ?_, ?_, hb⟩
    · have := (List.mem_replicate.1 hx).2; omega
    · show _ = _
      rw [List.drop_eq_nil_of_le (by simp), List.drop_eq_nil_of_le (by rw [HN.out]; exact Nat.le_refl _)]; simp [bval]
  case round =>
    clear hown hb
    obtain ⟨m, out, r, hm, rfl, rfl, hr0, hr1, hown1, hol, how, hval, hb1⟩ := hrel
    have HOW := Lib.hid how
    clear how
    have hol' : out.length = n := hol.out
    by_cases hm0 : m = 0
    · subst hm0
      have h1 := hval.out
      simp only [List.drop_zero] at h1
      have hdn : r.toNat < d.toNat := by omega
      have hq : bval xs / d.toNat = bval out := by
        rw [← h1, Nat.mul_comm, Nat.mul_add_div (by omega), Nat.div_eq_of_lt hdn, Nat.add_zero]
      have hrm : bval xs % d.toNat = r.toNat := by
        rw [← h1, Nat.mul_comm, Nat.mul_add_mod, Nat.mod_eq_of_lt hdn]
      have HQ := Lib.hid hq
      have HRM := Lib.hid hrm
      obtain ⟨ad', cap', he, hrd, hfr⟩ := Gx.Rd.own' (k := .u32) (xs := out) hown1 (wf_words HOW.out)
      have HR := Lib.hid hrd
      have HFR := Lib.hid hfr
      clear hrd hfr hown1 h1 hq hrm hval hdn
      have hlo : out.length ≤ 1048576 := by omega
      rw [he]
      clear he hol'
      go_wp2_with (first
        | (go_at_call 26; refine (trimmed_any ad' cap' out _ HR.out (by omega)).mono ?_; rintro e w' ⟨rfl, rfl⟩))
      go_ret2
      refine ⟨ad', cap', ?_, ?_, hb1, HFR.out⟩
      · rw [HQ.out, HRM.out, show ((r.toNat : Nat) : Int) = r from by omega]; rfl
      · rw [HQ.out]; exact HR.out.trim
    · have hb3 := hb1.size
      have hgb : w.heap.size ≤ gb := by rw [HGB.out]; exact Nat.le_refl _
      obtain ⟨b1, o1, rfl, -, hcx⟩ := (H.out.keep hb1).addr (by have := HN.out; omega)
      have hx := hcx (m - 1) (by have := HN.out; omega)
      clear hcx
      obtain ⟨bx0, bx1⟩ := words_getD HWX.out (m - 1)
      obtain ⟨x, ex⟩ : ∃ x, x = xs.getD (m - 1) 0 := ⟨_, rfl⟩
      rw [← ex] at hx bx0 bx1
      have hcell : ∃ y, wr.cell? ⟨gb, m - 1, none⟩ = some (.int .u32 y) := by
        rw [hown1.cellAt (m - 1) (by omega)]
        exact ⟨out[m - 1], by simp [List.getElem?_eq_getElem (show m - 1 < out.length by omega)]⟩
      obtain ⟨y, hcell⟩ := hcell
      have hfz : wr.frozen? ⟨gb, m - 1, none⟩ = false := hown1.frozenAt (m - 1)
      have e1 : m - 1 < xs.length := by have := HN.out; omega
      have e2 : out.length = xs.length := hol'.trans HN.out
      have e4 : m - 1 + 1 = m := by omega
      have e3 : bval (out.drop (m - 1 + 1)) * d.toNat + r.toNat = bval (xs.drop (m - 1 + 1)) := by rw [e4]; exact hval.out
      have hT0 := byWord_step out xs (m - 1) d r x hd hr0 bx0 e1 e2 ex e3
      have hT := Lib.hid hT0
      clear e1 e2 e3 e4 hT0
      clear ex
      have hz0 : 0 ≤ r * 4294967296 + x := by omega
      have hq0 : 0 ≤ (r * 4294967296 + x) / d := Int.ediv_nonneg hz0 (by omega)
      have hq1 : (r * 4294967296 + x) / d ≤ 4294967295 := by
        have : (r * 4294967296 + x) / d < 4294967296 := Int.ediv_lt_of_lt_mul (by omega) (by
          have : (r + 1) * 4294967296 ≤ d * 4294967296 := Int.mul_le_mul_of_nonneg_right (by omega) (by decide)
          rw [Int.mul_comm 4294967296 d]; omega)
        omega
      have ht0 : 0 ≤ (r * 4294967296 + x) % d := Int.emod_nonneg _ (by omega)
      have ht1 : (r * 4294967296 + x) % d < d := Int.emod_lt_of_pos _ (by omega)
      have HC := Lib.hid (div32_any r x d wr hr0 bx0 bx1 hd' hr1)
      unfold DivPost at HC
      clear hz0 
      obtain ⟨q, hqe⟩ : ∃ q, q = (r * 4294967296 + x) / d := ⟨_, rfl⟩
      obtain ⟨t, hte⟩ : ∃ t, t = (r * 4294967296 + x) % d := ⟨_, rfl⟩
      rw [← hqe] at hq0 hq1
      rw [← hte] at ht0 ht1
      rw [← hqe, ← hte] at HC hT
      clear hqe hte
      have hst := hown1.stored (m - 1) (.int .u32 q)
      have HBN := Lib.hid (hb1.grown hst.2 hb3 (fun q e => by cases e; exact hgb))
      have HON : Hid ((wr.setCell ⟨gb, m - 1, none⟩ (.int .u32 q)).ownsRow w.heap.size 27 1 (.slice (some ⟨gb, 0, none⟩) n n) n ((out.set (m - 1) q).map (Value.int .u32))) := by
        show World.ownsRow _ _ _ _ _ _ _
        rw [List.map_set]; exact hst.1
      have hw3 := Lib.hid (words_set HOW.out (m - 1) q (by omega) (by omega))
      have hl3 : Hid ((out.set (m - 1) q).length = n) := by show _ = _; rw [List.length_set]; exact hol'
      have hi0 : (0 : Int) ≤ (m : Int) - 1 := by omega
      have hi1 : (m : Int) - 1 < (n : Int) := by omega
      have hi3 : ((m : Int) - 1).toNat = m - 1 := by omega
      clear hst hown1 hol' hb1
      go_wp2_with (first
        | (go_at_call 44; refine HC.out.mono ?_; rintro e w' ⟨rfl, nq, rfl⟩))
      go_roundw
      case rel =>
        refine ⟨m - 1, out.set (m - 1) q, t, by omega, ?_, rfl, by omega, by omega, ?_, hl3, hw3.out, hT, ?_⟩
        · congr 1 <;> omega
        · exact HON.out
        · exact HBN.out.trans (Gx.drewN_below _ _ _)
      case measure => simp [intOf]; omega
end Go.Proofs.YtmieegcnfnoiiaaDoor
