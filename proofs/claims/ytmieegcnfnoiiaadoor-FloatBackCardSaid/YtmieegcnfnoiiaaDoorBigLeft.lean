/-
  The contract of big.left: a number by a power of 2, less than a word. Conditions: at most 2^20 words, the last is no nought.
-/
import Derived.Test.YtmieegcnfnoiiaaDoorBigAdd2
import Derived.Test.YtmieegcnfnoiiaaDoorShiftLaw
namespace Go.Proofs.YtmieegcnfnoiiaaDoor
open Go.RowKit Gx
set_option maxRecDepth 100000

theorem canon_of_big (a : List Int) (h : Words a) (hb : 4294967296 ^ (a.length - 1) ≤ bval a) : canon (bval a) = a := by
  refine canon_bval a h ?_
  intro x hx h0
  subst h0
  obtain ⟨b, rfl⟩ := List.getLast?_eq_some_iff.1 hx
  rw [bval_append] at hb
  have := bval_lt b (fun y hy => h y (by simp [hy]))
  simp [bval] at hb
  omega

set_option maxHeartbeats 1000000 in
theorem bigLeft_any (ad : Option Addr) (ca v n : Nat) (w : World) (h : Rd .u32 w ad ca (canon v)) (hl : (canon v).length ≤ 1048576) (hv : v ≠ 0) (hn : n ≤ 31) :
    Calls Tryd.prog 32 #[.slice ad (canon v).length ca, .int .i64 n] w (WordsPost (v * 2 ^ n) w) := by
  obtain ⟨xs, hxs⟩ : ∃ xs, xs = canon v := ⟨_, rfl⟩
  have hbv : bval xs = v := by rw [hxs, bval_canon]
  have hgt := canon_len_gt v hv
  rw [← hxs] at h hl hgt ⊢
  have hwx := words_of_rd h
  have H := Lib.hid h
  have HWX := Lib.hid hwx
  have HBV := Lib.hid hbv
  have HGT := Lib.hid hgt
  clear h hwx hxs hbv hgt
  go_enter Tryd.func32, Tryd.ntmps32
  obtain ⟨i0, hi, hz0, hz1, hz2⟩ := info_parts Tryd.info_u32
  have HI := Lib.hid hi
  have HZ0 := Lib.hid hz0
  have HZ1 := Lib.hid hz1
  clear hi hz0 hz1
  go_wp2_with (first
    | (at_make; refine wpList_make_own _ rfl _ _ 29 rfl w.heap.size 27 i0 (.int .u32 0) 1 Tryd.underlying29 HI.out HZ0.out HZ1.out .i64 .i64 _ (xs.length + 2) rfl rfl (by omega) (by rw [hz2]; omega) (by unfold maxLen; omega) (Nat.le_refl _) ?_))
  intro w1 hown hg
  have hb : Below w.heap.size w w1 := Gx.grown_below hg (Nat.le_refl _) (by simp)
  clear hg
  obtain ⟨v0, hv0⟩ : ∃ v0, v0 = Value.slice (some ⟨w.heap.size, 0, none⟩) 0 (xs.length + 2) := ⟨_, rfl⟩
  rw [← hv0] at hown ⊢
  clear hv0
  have a1 : IntKind.u64.wrap (n : Int) = (n : Int) := by rw [IntKind.wrap_u64]; omega
  have a2 : IntKind.i64.wrap (32 - (n : Int)) = ((32 - n : Nat) : Int) := by rw [IntKind.wrap_i64]; omega
  have a3 : IntKind.u64.wrap ((32 - n : Nat) : Int) = ((32 - n : Nat) : Int) := by rw [IntKind.wrap_u64]; omega
  have a4 : (32 : Int) - (n : Int) = ((32 - n : Nat) : Int) := by omega
  have a5 : min n 32 = n := by omega
  have a6 : min (32 - n) 64 = 32 - n := by omega
  go_wp2
  go_loopw [5, 6, 15] (fun v c i wr => ∃ (k : Nat) (out : List Int) (low : Nat), k ≤ xs.length ∧ i = .int .i64 k ∧ c = .int .u32 low ∧ low < 4294967296 ∧ Hid (low < 2 ^ n) ∧
      wr.ownsRow w.heap.size 27 1 v k (out.map (Value.int .u32)) ∧ Hid (out.length = k) ∧ Hid (Words out) ∧ Hid (bval out + 4294967296 ^ k * low = bval (xs.take k) * 2 ^ n) ∧ Below w.heap.size w wr)
    (fun _ _ i _ => xs.length - (intOf i).toNat)
  case atStart => exact ⟨0, [], 0, Nat.zero_le _, rfl, rfl, by decide, Nat.two_pow_pos n, hown, rfl, fun x hx => by simp at hx, by show _ = _; simp [bval], hb⟩
  case round =>
    obtain ⟨k, out, low, hk, rfl, rfl, hlw, hln, hown1, hol, how, hval, hb1⟩ := hrel
    clear hown hb
    have hsz := hb1.size
    by_cases hkx : k < xs.length
    · obtain ⟨b1, o1, rfl, -, hcx⟩ := (H.out.keep hb1).addr (by omega)
      have hx := hcx k hkx
      clear hcx
      obtain ⟨bx0, bx1⟩ := words_getD HWX.out k
      obtain ⟨x, ex⟩ : ∃ x : Nat, (x : Int) = xs.getD k 0 := ⟨(xs.getD k 0).toNat, by omega⟩
      rw [← ex] at hx bx1
      have EX := Lib.hid ex
      clear ex bx0
      obtain ⟨e1, e2, e3, e4⟩ := left_word n x low hn (by omega) hln.out
      obtain ⟨y, hy⟩ : ∃ y, y = x * 2 ^ n % 4294967296 + low := ⟨_, rfl⟩
      obtain ⟨z, hz⟩ : ∃ z, z = x / 2 ^ (32 - n) := ⟨_, rfl⟩
      have hzi : (x : Int) / 2 ^ (32 - n) = (z : Int) := by rw [hz, Int.natCast_ediv, Int.natCast_pow]; rfl
      have hzl : z ≤ x := by rw [hz]; exact Nat.div_le_self _ _
      rw [← hy] at e1 e3 e4
      rw [← hz] at e2 e4
      have e5 : (z : Int) % 4294967296 = (z : Int) := by omega
      have E2 := Lib.hid e2
      have E4 := Lib.hid e4
      clear hy hz e2 e4
      have hT : Hid (bval (out ++ [(y : Int)]) + 4294967296 ^ (k + 1) * z = bval (xs.take (k + 1)) * 2 ^ n) := by
        show _ = _
        rw [bval_append, bval_take_succ, ← EX.out, hol.out, Nat.pow_succ, Nat.add_mul, ← hval.out]
        simp only [bval, Nat.mul_zero, Nat.add_zero, Int.toNat_natCast]
        have h4 := E4.out
        generalize 4294967296 ^ k = q at *
        have h5 : q * y + q * 4294967296 * z = q * (x * 2 ^ n) + q * low := by
          rw [Nat.mul_assoc, ← Nat.mul_add, ← Nat.mul_add, h4]
        rw [Nat.mul_assoc q x]
        omega
      have hW2 : Words (out ++ [(y : Int)]) := by
        intro u hu
        rcases List.mem_append.1 hu with hu | hu
        · exact how.out u hu
        · simp at hu; omega
      have HW2 := Lib.hid hW2
      clear hW2
      go_wp2_with (first
        | (at_builtin; refine Gx.wpList_push wr rfl _ _ 29 rfl w.heap.size 27 (.int .u32 0) 1 4 Tryd.underlying29 Tryd.info_u32 rfl (by decide) _ _ _ [.int .u32 (y : Int)] _ rfl rfl (by exact hown1) rfl rfl ?a2 ?a3 ?a4 ?a5 ?_))
      case a2 => intro u hu; simp at hu; subst hu; rfl
      case a3 => omega
      case a4 => omega
      case a5 => omega
      intro v' w' hown2 hg2 _ _
      have hb2 : Below w.heap.size w w' := hb1.grown hg2 hsz (fun k e => (hown1.lt k e).1)
      have hown3 : w'.ownsRow w.heap.size 27 1 v' (k + 1) ((out ++ [(y : Int)]).map (Value.int .u32)) := by
        rw [List.map_append]; exact hown2
      clear hown1 hown2 hg2
      go_wp2
      go_roundw
      case rel => exact ⟨k + 1, out ++ [(y : Int)], z, by omega, by go_num, rfl, by omega, E2, hown3, by simp [Hid, hol.out], HW2, hT, hb2⟩
      case measure => simp [intOf]; omega
    · obtain rfl : k = xs.length := by omega
      have hv := hval.out
      rw [List.take_of_length_le (Nat.le_refl _), HBV.out] at hv
      have hvv : v ≤ v * 2 ^ n := Nat.le_mul_of_pos_right _ (Nat.two_pow_pos n)
      by_cases h0 : low = 0
      · subst h0
        have hc : canon (v * 2 ^ n) = out := by
          rw [← hv, Nat.mul_zero, Nat.add_zero]
          refine canon_of_big out how.out ?_
          have := HGT.out
          rw [hol.out]; omega
        have HC := Lib.hid hc
        clear hc hv hvv
        obtain ⟨ad', cap', he, hrd⟩ := Gx.Rd.own (k := .u32) (xs := out) hown1 (wf_words how.out)
        have HR := Lib.hid hrd
        clear hrd hown1
        rw [he]
        clear he
        go_wp2
        go_ret
        exact ⟨ad', cap', by rw [HC.out]; rfl, by rw [HC.out]; exact HR.out, hb1⟩
      · have hpos : decide ((0 : Int) < (low : Int)) = true := by simp; omega
        have hW2 : Words (out ++ [(low : Int)]) := by
          intro u hu
          rcases List.mem_append.1 hu with hu | hu
          · exact how.out u hu
          · simp at hu; omega
        have hc : canon (v * 2 ^ n) = out ++ [(low : Int)] := by
          have e : v * 2 ^ n = bval (out ++ [(low : Int)]) := by
            rw [bval_append, hol.out, ← hv]; simp [bval]
          rw [e]
          refine canon_of_big _ hW2 ?_
          rw [← e, ← hv, List.length_append, hol.out]
          simp only [List.length_cons, List.length_nil, Nat.zero_add, Nat.add_sub_cancel]
          have : 4294967296 ^ xs.length * 1 ≤ 4294967296 ^ xs.length * low := Nat.mul_le_mul_left _ (by omega)
          omega
        have HC := Lib.hid hc
        have HW2 := Lib.hid hW2
        clear hc hv hvv hW2
        go_wp2_with (first
          | (at_builtin; refine Gx.wpList_push wr rfl _ _ 29 rfl w.heap.size 27 (.int .u32 0) 1 4 Tryd.underlying29 Tryd.info_u32 rfl (by decide) _ _ _ [.int .u32 (low : Int)] _ rfl rfl (by exact hown1) rfl rfl ?d2 ?d3 ?d4 ?d5 ?_))
        case d2 => intro u hu; simp at hu; subst hu; rfl
        case d3 => omega
        case d4 => omega
        case d5 => omega
        intro v' w' hown2 hg2 _ _
        have hb2 : Below w.heap.size w w' := hb1.grown hg2 hsz (fun k e => (hown1.lt k e).1)
        obtain ⟨ad', cap', he, hrd⟩ := Gx.Rd.own (k := .u32) (xs := out ++ [(low : Int)]) (by simpa using hown2) (wf_words HW2.out)
        have HR := Lib.hid hrd
        clear hrd hown1 hown2 hg2
        rw [he]
        clear he
        go_wp2
        go_ret
        exact ⟨ad', cap', by rw [HC.out]; rfl, by rw [HC.out]; exact HR.out, hb2⟩
end Go.Proofs.YtmieegcnfnoiiaaDoor
