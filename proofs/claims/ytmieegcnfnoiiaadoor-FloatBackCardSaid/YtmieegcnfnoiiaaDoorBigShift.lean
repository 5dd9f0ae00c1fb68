/-
  The contracts of big.Shift. Conditions: at most 2^18 words; by no more than 4000 to the left.
-/
import Derived.Test.YtmieegcnfnoiiaaDoorBigLeft
import Derived.Test.YtmieegcnfnoiiaaDoorBigRight
import Derived.Test.YtmieegcnfnoiiaaDoorBigSub2
import Derived.Test.YtmieegcnfnoiiaaDoorBigLen
import Derived.Deep.RegionLaw
import Derived.Deep.AppendLies
import Derived.Deep.OwnRows
namespace Go.Proofs.YtmieegcnfnoiiaaDoor
open Go.RowKit Gx
set_option maxRecDepth 100000

theorem shift_canon (v n : Nat) (hv : v ≠ 0) : canon (v * 2 ^ n) = List.replicate (n / 32) 0 ++ canon (v * 2 ^ (n % 32)) := by
  have hW : Words (List.replicate (n / 32) (0 : Int) ++ canon (v * 2 ^ (n % 32))) := by
    intro x hx
    rcases List.mem_append.1 hx with hx | hx
    · have := (List.mem_replicate.1 hx).2; omega
    · exact canon_words _ x hx
  have hb : bval (List.replicate (n / 32) (0 : Int) ++ canon (v * 2 ^ (n % 32))) = v * 2 ^ n := by
    rw [bval_append, bval_replicate, List.length_replicate, bval_canon, Nat.zero_add]
    have e : (4294967296 : Nat) ^ (n / 32) = 2 ^ (32 * (n / 32)) := by rw [Nat.pow_mul]
    rw [e, Nat.mul_left_comm, ← Nat.pow_add, Nat.div_add_mod]
  rw [← hb]
  refine canon_of_big _ hW ?_
  have hne : v * 2 ^ (n % 32) ≠ 0 := Nat.mul_ne_zero hv (Nat.ne_of_gt (Nat.two_pow_pos _))
  have hg := canon_len_gt _ hne
  have hp : 0 < (canon (v * 2 ^ (n % 32))).length := by rw [canon_pos _ hne]; simp
  rw [bval_append, bval_replicate, List.length_append, List.length_replicate, bval_canon, Nat.zero_add, Nat.add_sub_assoc hp, Nat.pow_add]
  exact Nat.mul_le_mul_left _ hg

theorem own_made (w : World) (q base : Nat) (hq : q ≤ 1048576) (hb : base ≤ w.heap.size) :
    (w.alloc (Obj.cells (madeCells #[Value.int IntKind.u32 0] q) 27)).ownsRow base 27 1 (.slice (some ⟨w.heap.size, 0, none⟩) q q) q ((List.replicate q (0 : Int)).map (Value.int .u32)) := by
  obtain ⟨i0, hi, hz0, hz1, hz2⟩ := info_parts Tryd.info_u32
  obtain ⟨w', hrun, r1, -⟩ := run_make_full (P := Tryd.prog) w base 29 27 i0 (.int .u32 0) 1 Tryd.underlying29 hi hz0 hz1 .i64 .i64 q (by rw [hz2]; omega) (by unfold maxLen; omega) hb
  have h2 := run_make_row' (P := Tryd.prog) 29 27 (.int .u32 0) 4 Tryd.underlying29 Tryd.info_u32 rfl .i64 .i64 q (by omega) (by omega) w
  rw [h2] at hrun
  simp only [Result.ok.injEq, true_and] at hrun
  rw [hrun]
  rw [Nat.mul_one, show (Value.int IntKind.u32 0).cells = #[Value.int IntKind.u32 0] from rfl, madeCells_one] at r1
  exact r1

def LeftAt (l : List Int) (w : World) (e : Ending) (w' : World) : Prop :=
  ∃ b o cap, e = .returned (.slice (some ⟨b, o, none⟩) l.length cap) ∧ Rd .u32 w' (some ⟨b, o, none⟩) cap l ∧ Below w.heap.size w w'

set_option maxHeartbeats 1000000 in
theorem bigShift_left (ad : Option Addr) (ca : Nat) (xs : List Int) (n : Nat) (w : World) (h : Rd .u32 w ad ca xs) (hl : xs.length ≤ 262144) (hn : n ≤ 4000) :
    Calls Tryd.prog 16 #[.slice ad xs.length ca, .int .i64 n] w (SubPost (bval xs * 2 ^ n) w) := by
  have hlen : (canon (bval xs)).length ≤ 262144 := by
    obtain ⟨m, hm, e⟩ := canon_take xs (words_of_rd h)
    rw [e]; simp; omega
  have H := Lib.hid h
  have HT := Lib.hid h.trim
  clear h
  have t0 : decide ((4000 : Int) < (n : Int)) = false := decide_eq_false (by omega)
  go_enter Tryd.func16, Tryd.ntmps16
  go_wp2_with fail
  refine (trimmed_any ad ca xs w H.out (by omega)).mono ?_
  rintro e w' ⟨rfl, rfl⟩
  by_cases h0 : bval xs = 0
  · have hz : (canon (bval xs)).length = 0 := by rw [h0]; rfl
    rw [hz]
    go_wp2
    go_ret2
    exact ⟨none, 0, by rw [h0, Nat.zero_mul]; rfl, by rw [h0, Nat.zero_mul]; exact Gx.Rd.nil _ _ _ _ (by omega) (fun _ => rfl), Below.refl _ _⟩
  · have hp : 0 < (canon (bval xs)).length := by rw [canon_pos _ h0]; simp
    have hne : ((canon (bval xs)).length == 0) = false := by simp; intro e; rw [e] at hp; simp at hp
    have hne2 : (((canon (bval xs)).length : Int) == 0) = false := by simp; intro e; rw [e] at hp; simp at hp
    go_wp2_with fail
    obtain ⟨q, hq⟩ : ∃ q, q = n / 32 := ⟨_, rfl⟩
    obtain ⟨r, hr⟩ : ∃ r, r = n % 32 := ⟨_, rfl⟩
    have hqq : IntKind.i64.wrap (q : Int) = (q : Int) := by rw [IntKind.wrap_i64]; omega
    have hq2 : (n : Int).tdiv 32 = (q : Int) := by rw [Int.tdiv_eq_ediv_of_nonneg (by omega)]; omega
    have hrr : (n : Int).tmod 32 = (r : Int) := by rw [Int.tmod_eq_emod_of_nonneg (by omega)]; omega
    have hqs : q ≤ 125 := by omega
    have hrs : r ≤ 31 := by omega
    have HQ := Lib.hid hq
    have HR := Lib.hid hr
    clear hq hr
    have hmk := run_make_row' (P := Tryd.prog) 29 27 (.int .u32 0) 4 Tryd.underlying29 Tryd.info_u32 rfl .i64 .i64 q (by omega) (by omega)
    obtain ⟨i0, hi, hz0, hz1, hz2⟩ := info_parts Tryd.info_u32
    have hvr : bval xs * 2 ^ r ≠ 0 := Nat.mul_ne_zero h0 (Nat.ne_of_gt (Nat.two_pow_pos _))
    have hp2 : 0 < (canon (bval xs * 2 ^ r)).length := by rw [canon_pos _ hvr]; simp
    have hl2 : (canon (bval xs * 2 ^ r)).length ≤ 262145 := by
      have f1 : bval xs < 4294967296 ^ (canon (bval xs)).length := by
        have := bval_lt _ (canon_words (bval xs)); rwa [bval_canon] at this
      have f2 : 2 ^ r < 4294967296 := Nat.lt_of_le_of_lt (Nat.pow_le_pow_right (by decide) hrs) (by decide)
      have f3 : bval xs * 2 ^ r < 4294967296 ^ ((canon (bval xs)).length + 1) := by
        rw [Nat.pow_succ]; exact Nat.mul_lt_mul'' f1 f2
      have := canon_len_le _ _ f3
      omega
    have hfin : canon (bval xs * 2 ^ n) = List.replicate q 0 ++ canon (bval xs * 2 ^ r) := by rw [shift_canon _ n h0, HQ.out, HR.out]
    have hleft : ∀ W : World, Below w.heap.size w W → Calls Tryd.prog 32 #[.slice ad (canon (bval xs)).length ca, .int .i64 r] W (LeftAt (canon (bval xs * 2 ^ r)) W) := by
      intro W hW
      refine (bigLeft_any ad ca (bval xs) r W (HT.out.keep hW) (by omega) h0 hrs).mono ?_
      rintro e w2 ⟨ad2, cap2, rfl, rd2, hb2⟩
      obtain ⟨b2, o2, rfl, -, -⟩ := rd2.addr hp2
      exact ⟨b2, o2, cap2, rfl, rd2, hb2⟩
    have hlw : Words (canon (bval xs * 2 ^ r)) := canon_words _
    obtain ⟨l2, el2⟩ : ∃ l2, l2 = canon (bval xs * 2 ^ r) := ⟨_, rfl⟩
    rw [← el2] at hp2 hl2 hfin hleft hlw
    have HL := Lib.hid hleft
    have HF := Lib.hid hfin
    have HW := Lib.hid hlw
    have HI := Lib.hid hi
    have HZ0 := Lib.hid hz0
    have HZ1 := Lib.hid hz1
    have HZ2 := Lib.hid hz2
    have hd : Below w.heap.size w w.drew := (Below.refl _ _).drew
    have hda : Below w.heap.size w (w.alloc (Obj.cells (madeCells #[Value.int IntKind.u32 0] q) 27)).drew := ((Below.refl _ _).alloc (Nat.le_refl _) _).drew
    have HD := Lib.hid hd
    have HDA := Lib.hid hda
    clear el2 hleft hfin hlw hi hz0 hz1 hz2 hvr hd hda
    go_region_law (first
      | (refine step_append_lies _ rfl (.tmp 20) (.tmp 24) 29 rfl w.heap.size 27 i0 (.int .u32 0) 1 4 Tryd.underlying29 HI.out HZ0.out HZ1.out HZ2.out rfl (by decide) _ q ((List.replicate q (0 : Int)).map (Value.int .u32)) rfl
          (by first | exact own_keep (own_made w q w.heap.size (by omega) (Nat.le_refl _)).drew hb2 | exact own_made w2 q w.heap.size (by omega) hb2.size)
          ⟨b2, o2, none⟩ l2.length cap2 (l2.map (Value.int .u32)) rfl (by simp) (by first | exact rd2.src.2.2.1 _ rfl | exact (rd2.keep ((Below.refl _ _).alloc (Nat.le_refl _) _)).src.2.2.1 _ rfl) (ints_oneCell _ _) (by exact hp2) (by unfold maxLen; omega) (by omega) (by first | (have := hb2.size; simp at this ⊢; omega)) _ rfl ?_; intro g cap3 w3 hown3 hg3 hat hlt)
      | (go_simp; go_at_call 32; refine (HL.out _ (by first | exact HDA.out | exact HD.out)).mono ?_; rintro e w2 ⟨b2, o2, cap2, rfl, rd2, hb2⟩))
    all_goals
      have hb3 : Below w.heap.size w w3 := by
        first
          | exact (HDA.out.trans (hb2.mono HDA.out.size)).grown hg3 (by have := hb2.size; simp at this ⊢; omega) (fun k e => by cases e; simp)
          | exact ((HD.out.trans (hb2.mono HD.out.size)).alloc hb2.size _).grown hg3 (by have := hb2.size; simp at this ⊢; omega) (fun k e => by have h5 : w.heap.size ≤ w2.heap.size := hb2.size; cases e; exact h5)
      have hW : Words (List.replicate q (0 : Int) ++ l2) := by
        intro x hx
        rcases List.mem_append.1 hx with hx | hx
        · have := (List.mem_replicate.1 hx).2; omega
        · exact HW.out x hx
      obtain ⟨ad', cap', he, hrd⟩ := Gx.Rd.own (k := .u32) (xs := List.replicate q 0 ++ l2) (by rw [List.map_append]; exact hown3) (wf_words hW)
      have HRD := Lib.hid hrd
      have HB3 := Lib.hid hb3
      clear hrd hown3 hg3 hat hlt hb3 hb2 hW
      rw [he]
      clear he
      go_wp2
      go_ret2
      exact ⟨ad', cap', by rw [HF.out]; rfl, by rw [HF.out]; exact HRD.out, HB3.out⟩

theorem rd_drop {k : IntKind} {w : World} {b o cap : Nat} {xs : List Int} (h : Rd k w (some ⟨b, o, none⟩) cap xs) (q : Nat) (hq : q < xs.length) : Rd k w (some ⟨b, o + q, none⟩) (cap - q) (xs.drop q) := by
  obtain ⟨h1, h2, h3⟩ := h.at_ _ rfl (by omega)
  refine ⟨by have := h.ncap; simp; omega, by have := h.cap63; omega, fun x hx => h.wf x (List.mem_of_mem_drop hx), fun e => by simp at e, fun a ha hp => ?_⟩
  obtain rfl := Option.some.inj ha
  refine ⟨rfl, h2, fun j hj => ?_⟩
  have := h3 (q + j) (by simp at hj; omega)
  simp only at this ⊢
  rw [show o + q + j = o + (q + j) by omega, this]
  congr 2
  simp [List.getD, List.getElem?_drop]

set_option maxHeartbeats 1000000 in
theorem bigShift_right (ad : Option Addr) (ca : Nat) (xs : List Int) (n : Nat) (w : World) (h : Rd .u32 w ad ca xs) (hl : xs.length ≤ 262144) (hn0 : 0 < n) (hn : n ≤ 4000) :
    Calls Tryd.prog 16 #[.slice ad xs.length ca, .int .i64 (-(n : Int))] w (SubPost (bval xs / 2 ^ n) w) := by
  have hlen : (canon (bval xs)).length ≤ 262144 := by
    obtain ⟨m, hm, e⟩ := canon_take xs (words_of_rd h)
    rw [e]; simp; omega
  have H := Lib.hid h
  have HT := Lib.hid h.trim
  clear h
  obtain ⟨z, hz⟩ : ∃ z, z = -(n : Int) := ⟨_, rfl⟩
  rw [← hz]
  have z1 : z < 0 := by omega
  have z2 : -4000 ≤ z := by omega
  have t0 : decide ((4000 : Int) < z) = false := decide_eq_false (by omega)
  have t1 : decide ((0 : Int) ≤ z) = false := decide_eq_false (by omega)
  go_enter Tryd.func16, Tryd.ntmps16
  go_wp2_with fail
  refine (trimmed_any ad ca xs w H.out (by omega)).mono ?_
  rintro e w' ⟨rfl, rfl⟩
  by_cases h0 : bval xs = 0
  · have hzz : (canon (bval xs)).length = 0 := by rw [h0]; rfl
    rw [hzz]
    go_wp2
    go_ret2
    exact ⟨none, 0, by rw [h0, Nat.zero_div]; rfl, by rw [h0, Nat.zero_div]; exact Gx.Rd.nil _ _ _ _ (by omega) (fun _ => rfl), Below.refl _ _⟩
  · have hp : 0 < (canon (bval xs)).length := by rw [canon_pos _ h0]; simp
    have hbv : bval (canon (bval xs)) = bval xs := bval_canon _
    have hlt := bval_lt _ (canon_words (bval xs))
    rw [hbv] at hlt
    obtain ⟨l, el⟩ : ∃ l, l = canon (bval xs) := ⟨_, rfl⟩
    obtain ⟨v, ev⟩ : ∃ v, v = bval xs := ⟨_, rfl⟩
    rw [← el] at HT hbv hlt hp hlen ⊢
    rw [← ev] at hbv hlt
    have EV := Lib.hid ev
    clear el ev
    have hne : (l.length == 0) = false := by simp; intro e; rw [e] at hp; simp at hp
    have hne2 : ((l.length : Int) == 0) = false := by simp; intro e; rw [e] at hp; simp at hp
    by_cases hbig : 32 * l.length ≤ n
    · have t2 : decide (z ≤ -32 * (l.length : Int)) = true := decide_eq_true (by omega)
      have hv0 : v / 2 ^ n = 0 := by
        refine Nat.div_eq_of_lt (Nat.lt_of_lt_of_le hlt ?_)
        rw [pow32]
        exact Nat.pow_le_pow_right (by decide) hbig
      have HV := Lib.hid hv0
      clear hv0 hlt hbv
      go_wp2
      go_ret2
      exact ⟨none, 0, by rw [← EV.out, HV.out]; rfl, by rw [← EV.out, HV.out]; exact Gx.Rd.nil _ _ _ _ (by omega) (fun _ => rfl), Below.refl _ _⟩
    · have t2 : decide (z ≤ -32 * (l.length : Int)) = false := decide_eq_false (by omega)
      obtain ⟨b, o, hab, hbl, hc⟩ := HT.out.addr hp
      subst hab
      have hql : n / 32 < l.length := by omega
      have hrs : n % 32 ≤ 31 := by omega
      have hca : l.length ≤ ca := HT.out.ncap
      have hcq : ¬ ca = n / 32 := by omega
      have q1 : IntKind.i64.wrap (-z) = (n : Int) := by rw [IntKind.wrap_i64]; omega
      have q2 : (n : Int).tdiv 32 = (n : Int) / 32 := by rw [Int.tdiv_eq_ediv_of_nonneg (by omega)]
      have q3 : (n : Int).tmod 32 = (n : Int) % 32 := by rw [Int.tmod_eq_emod_of_nonneg (by omega)]
      have hfin : bval (l.drop (n / 32)) / 2 ^ (n % 32) = bval xs / 2 ^ n := by
        rw [← bval_shr l (words_of_rd HT.out) (n / 32) (by omega), hbv, Nat.div_div_eq_div_mul, pow32, ← Nat.pow_add, Nat.div_add_mod, EV.out]
      have hright := bigRight_any (some ⟨b, o + n / 32, none⟩) (ca - n / 32) (l.drop (n / 32)) (n % 32) w (rd_drop HT.out _ hql) (by simp; omega) hrs
      rw [List.length_drop, hfin, show ((n % 32 : Nat) : Int) = (n : Int) % 32 from by omega] at hright
      have HR := Lib.hid hright
      clear hright hfin hbv hlt hc
      go_wp2_with fail
      refine HR.out.mono ?_
      rintro e w2 ⟨ad2, cap2, rfl, rd2, hb2⟩
      have R2 := Lib.hid rd2
      clear rd2
      go_wp2
      go_ret2
      exact ⟨ad2, cap2, rfl, R2.out, hb2⟩
end Go.Proofs.YtmieegcnfnoiiaaDoor
