/-
  The contract of big.DivMod. Conditions: at most 1,000,000 words.
-/
import Derived.Test.YtmieegcnfnoiiaaDoorBigLong
import Derived.Test.YtmieegcnfnoiiaaDoorByWord
import Derived.Test.YtmieegcnfnoiiaaDoorBigCmp
namespace Go.Proofs.YtmieegcnfnoiiaaDoor
open Go.RowKit Gx
set_option maxRecDepth 100000

def DivModPost (q r : Nat) (w : World) (e : Ending) (w' : World) : Prop :=
  ∃ qo qc ro rc, e = .returned (.tuple #[.slice qo (canon q).length qc, .slice ro (canon r).length rc, .int .i64 0]) ∧ Rd .u32 w' qo qc (canon q) ∧ Rd .u32 w' ro rc (canon r) ∧ Below w.heap.size w w'

theorem kci (k c : Int) : (k = c ∧ decide (k = c) = true ∧ (k == c) = true ∧ (k != c) = false) ∨ (k ≠ c ∧ decide (k = c) = false ∧ (k == c) = false ∧ (k != c) = true) := by
  by_cases h : k = c
  · exact .inl ⟨h, decide_eq_true h, by simpa using h, by simpa using h⟩
  · exact .inr ⟨h, decide_eq_false h, by simpa using h, by simpa using h⟩
theorem kcn {k c : Nat} (h : k ≠ c) : (k == c) = false ∧ ((k : Int) == (c : Int)) = false ∧ decide ((k : Int) = (c : Int)) = false := ⟨by simpa using h, by simp; omega, decide_eq_false (by omega)⟩

variable (ad bd : Option Addr) (ca cb : Nat) (xs ys : List Int) (w : World)

set_option maxHeartbeats 1000000 in
theorem divMod_zero (g : Rd .u32 w bd cb ys) (hl2 : ys.length ≤ 1000000) (hy : bval ys = 0) :
    Calls Tryd.prog 40 #[.slice ad xs.length ca, .slice bd ys.length cb] w fun e w' => e = .returned (.tuple #[.slice none 0 0, .slice none 0 0, .int .i64 1]) ∧ Below w.heap.size w w' := by
  have H := Lib.hid (trimmed_any bd cb ys w g (by omega))
  have hz : (canon (bval ys)).length = 0 := by rw [hy]; rfl
  have HZ := Lib.hid hz
  clear g hy hz
  go_enter Tryd.func40, Tryd.ntmps40
  go_wp2_with fail
  refine H.out.mono ?_
  rintro e w' ⟨rfl, rfl⟩
  rw [HZ.out]
  go_wp2
  go_ret3
  exact ⟨rfl, Below.refl _ _⟩

set_option maxHeartbeats 1000000 in
theorem divMod_less (h : Rd .u32 w ad ca xs) (g : Rd .u32 w bd cb ys) (hl : xs.length ≤ 1000000) (hl2 : ys.length ≤ 1000000) (hlt : bval xs < bval ys) :
    Calls Tryd.prog 40 #[.slice ad xs.length ca, .slice bd ys.length cb] w (DivModPost (bval xs / bval ys) (bval xs % bval ys) w) := by
  have H := Lib.hid (trimmed_any bd cb ys w g (by omega))
  have hcl := canon_len_le (bval ys) ys.length (bval_lt ys (words_of_rd g))
  have hc := bigCmp_any ad bd ca cb xs (canon (bval ys)) w h g.trim (by omega) (by omega)
  rw [bval_canon] at hc
  unfold CmpPost at hc
  rw [cmp_lt hlt] at hc
  have HC := Lib.hid hc
  have HT := Lib.hid (fun w0 (hb : Below w.heap.size w w0) => bigTrim_any ad ca xs w0 (h.keep hb) (by omega))
  have hq : bval xs / bval ys = 0 := Nat.div_eq_of_lt hlt
  have hr : bval xs % bval ys = bval xs := Nat.mod_eq_of_lt hlt
  rw [hq, hr]
  have hne : (canon (bval ys)).length ≠ 0 := by
    intro e
    have := canon_pos (bval ys) (by omega)
    rw [this] at e
    simp at e
  obtain ⟨n, hn⟩ : ∃ n, n = (canon (bval ys)).length := ⟨_, rfl⟩
  rw [← hn] at hne HC
  have HN := Lib.hid hn
  obtain ⟨n1, n2, n3⟩ := kcn hne
  clear h g hcl hc hq hr hlt hn hne
  go_enter Tryd.func40, Tryd.ntmps40
  go_wp2_with fail
  refine H.out.mono ?_
  rintro e w' ⟨rfl, rfl⟩
  rw [← HN.out]
  go_wp2_with fail
  refine HC.out.mono ?_
  rintro e w1 ⟨rfl, hb⟩
  have B1 := Lib.hid hb
  clear hb
  go_wp2_with fail
  refine (HT.out w1 B1.out).mono ?_
  rintro e w2 ⟨ro, rc, rfl, hr, hb⟩
  have HR := Lib.hid hr
  have B2 := Lib.hid (B1.out.trans (hb.mono B1.out.size))
  clear hb hr
  go_wp2
  go_ret3
  exact ⟨none, 0, ro, rc, rfl, Gx.Rd.nil _ _ _ _ (by omega) (fun _ => rfl), HR.out, B2.out⟩

set_option maxHeartbeats 1000000 in
theorem divMod_word (h : Rd .u32 w ad ca xs) (g : Rd .u32 w bd cb ys) (hl : xs.length ≤ 1000000) (hl2 : ys.length ≤ 1000000) (hle : bval ys ≤ bval xs) (h1 : (canon (bval ys)).length = 1) :
    Calls Tryd.prog 40 #[.slice ad xs.length ca, .slice bd ys.length cb] w (DivModPost (bval xs / bval ys) (bval xs % bval ys) w) := by
  have H := Lib.hid (trimmed_any bd cb ys w g (by omega))
  have hc := bigCmp_any ad bd ca cb xs (canon (bval ys)) w h g.trim (by omega) (by omega)
  rw [bval_canon, h1] at hc
  have hcp : 0 ≤ cmpOf (bval xs) (bval ys) := by unfold cmpOf; rw [if_neg (by omega)]; split <;> omega
  unfold CmpPost at hc
  generalize cmpOf (bval xs) (bval ys) = c at *
  have HC := Lib.hid hc
  obtain ⟨y, hy⟩ : ∃ y, canon (bval ys) = [y] := List.length_eq_one_iff.1 h1
  have hyv : bval ys = y.toNat := by
    have := bval_canon (bval ys)
    rw [hy] at this
    simp [bval] at this
    exact this.symm
  have hyw := canon_words (bval ys) y (by rw [hy]; simp)
  have hy0 : y ≠ 0 := by
    rintro rfl
    have h2 : bval ys = 0 := by rw [hyv]; rfl
    rw [h2] at h1
    simp [canon_zero] at h1
  have HB := Lib.hid (fun w0 (hb : Below w.heap.size w w0) => byWord_any ad ca xs y w0 (h.keep hb) (by omega) (by omega) (by omega))
  have HG := fun w0 (hb : Below w.heap.size w w0) => g.trim.keep hb
  rw [hy] at HG
  replace HG := Lib.hid HG
  rw [← hyv] at HB
  have hrlt : bval xs % bval ys < 4294967296 := Nat.lt_of_lt_of_le (Nat.mod_lt _ (by omega)) (by omega)
  obtain ⟨Q, hQ⟩ : ∃ q, q = bval xs / bval ys := ⟨_, rfl⟩
  obtain ⟨R, hR⟩ : ∃ q, q = bval xs % bval ys := ⟨_, rfl⟩
  unfold ByWordPost at HB
  rw [← hQ, ← hR] at HB ⊢
  rw [← hR] at hrlt
  have H1 := Lib.hid h1
  clear h g hc hle hy hyv hyw hy0 hQ hR h1
  go_enter Tryd.func40, Tryd.ntmps40
  go_wp2_with fail
  refine H.out.mono ?_
  rintro e w' ⟨rfl, rfl⟩
  rw [H1.out]
  go_wp2_with fail
  refine HC.out.mono ?_
  rintro e w1 ⟨rfl, hb⟩
  have B1 := Lib.hid hb
  obtain ⟨b1, o1, rfl, -, hcy⟩ := (HG.out w1 hb).addr (by simp)
  have c1 := hcy 0 (by simp)
  simp only [Nat.add_zero, List.getD_cons_zero] at c1
  clear hb hcy
  go_wp2_with fail
  refine (HB.out w1 B1.out).mono ?_
  rintro e w2 ⟨qo, qc, rfl, hq, hb, -⟩
  have HQ := Lib.hid hq
  have B2 := Lib.hid (B1.out.trans (hb.mono B1.out.size))
  clear hb hq c1
  have hrow : (w2.alloc (.cells #[.int .u32 (R : Int)] 27)).heap[w2.heap.size]? = some (.cells #[.int .u32 (R : Int)] 27 (0, 0)) := heap_alloc_new w2 _
  have hrd : Rd .u32 (w2.alloc (.cells #[.int .u32 (R : Int)] 27)) (some ⟨w2.heap.size, 0, none⟩) 1 [(R : Int)] := by
    refine ⟨by simp, by decide, fun x hx => ?_, (fun h => by cases h), fun a ha _ => ?_⟩
    · simp at hx; subst hx
      simp [Lit.wf, IntKind.min, IntKind.max, IntKind.signed, IntKind.bits]; omega
    · obtain rfl := Option.some.inj ha
      refine ⟨rfl, by simp, fun j hj => ?_⟩
      obtain rfl : j = 0 := by simp at hj; omega
      exact World.cell?_alloc_mark w2 _ _ (0, 0) 0
  have HRD := Lib.hid hrd
  have HQ3 := Lib.hid (HQ.out.keep ((Below.refl w2.heap.size w2).alloc (Nat.le_refl _) (.cells #[.int .u32 (R : Int)] 27)))
  have B3 := Lib.hid (B2.out.alloc B2.out.size (.cells #[.int .u32 (R : Int)] 27))
  have hbv : bval [(R : Int)] = R := by simp [bval]
  have HBV := Lib.hid hbv
  clear hrow hrd hbv HQ B2
  go_wp2_with fail
  refine (trimmed_any _ 1 [(R : Int)] _ HRD.out (by simp)).mono ?_
  rintro e w' ⟨rfl, rfl⟩
  have hr := HRD.out.trim
  rw [HBV.out] at hr
  have HR := Lib.hid hr
  clear hr
  rw [HBV.out]
  go_wp2
  go_ret3
  exact ⟨_, _, _, _, rfl, HQ3.out, HR.out, B3.out⟩

set_option maxHeartbeats 1000000 in
theorem divMod_long (h : Rd .u32 w ad ca xs) (g : Rd .u32 w bd cb ys) (hl : xs.length ≤ 1000000) (hl2 : ys.length ≤ 1000000) (hle : bval ys ≤ bval xs) (h1 : 2 ≤ (canon (bval ys)).length) :
    Calls Tryd.prog 40 #[.slice ad xs.length ca, .slice bd ys.length cb] w (DivModPost (bval xs / bval ys) (bval xs % bval ys) w) := by
  have H := Lib.hid (trimmed_any bd cb ys w g (by omega))
  have hcl := canon_len_le (bval ys) ys.length (bval_lt ys (words_of_rd g))
  have hcx := canon_len_le (bval xs) xs.length (bval_lt xs (words_of_rd h))
  have hc := bigCmp_any ad bd ca cb xs (canon (bval ys)) w h g.trim (by omega) (by omega)
  rw [bval_canon] at hc
  have hcp : 0 ≤ cmpOf (bval xs) (bval ys) := by unfold cmpOf; rw [if_neg (by omega)]; split <;> omega
  unfold CmpPost at hc
  generalize cmpOf (bval xs) (bval ys) = c at *
  have HC := Lib.hid hc
  have HT := Lib.hid (fun w0 (hb : Below w.heap.size w w0) => trimmed_any ad ca xs w0 (h.keep hb) (by omega))
  have HL := Lib.hid (fun w0 (hb : Below w.heap.size w w0) => long_any ad bd ca cb (bval xs) (bval ys) w0 (h.trim.keep hb) (g.trim.keep hb) (by omega) h1 hle)
  obtain ⟨n, hn⟩ : ∃ n, n = (canon (bval ys)).length := ⟨_, rfl⟩
  obtain ⟨m, hm⟩ : ∃ n, n = (canon (bval xs)).length := ⟨_, rfl⟩
  rw [← hn] at HC h1 HL
  rw [← hm] at HL
  have HN := Lib.hid hn
  have HM := Lib.hid hm
  obtain ⟨n1, n2, n3⟩ := kcn (show n ≠ 0 by omega)
  obtain ⟨m1, m2, m3⟩ := kcn (show n ≠ 1 by omega)
  obtain ⟨Q, hQ⟩ : ∃ q, q = bval xs / bval ys := ⟨_, rfl⟩
  obtain ⟨R, hR⟩ : ∃ q, q = bval xs % bval ys := ⟨_, rfl⟩
  rw [← hQ, ← hR] at HL ⊢
  unfold LongPost at HL
  clear h g hcl hcx hc hle hn hm hQ hR
  go_enter Tryd.func40, Tryd.ntmps40
  go_wp2_with fail
  refine H.out.mono ?_
  rintro e w' ⟨rfl, rfl⟩
  rw [← HN.out]
  go_wp2_with fail
  refine HC.out.mono ?_
  rintro e w1 ⟨rfl, hb⟩
  have B1 := Lib.hid hb
  clear hb
  go_wp2_with fail
  refine (HT.out w1 B1.out).mono ?_
  rintro e w' ⟨rfl, rfl⟩
  rw [← HM.out]
  go_wp2_with fail
  refine (HL.out w1 B1.out).mono ?_
  rintro e w2 ⟨qo, qc, ro, rc, rfl, hq, hr, hb⟩
  have HQ := Lib.hid hq
  have HR := Lib.hid hr
  have B2 := Lib.hid (B1.out.trans (hb.mono B1.out.size))
  clear hb hq hr
  go_wp2
  go_ret3
  exact ⟨_, _, _, _, rfl, HQ.out, HR.out, B2.out⟩

theorem divMod_any (h : Rd .u32 w ad ca xs) (g : Rd .u32 w bd cb ys) (hl : xs.length ≤ 1000000) (hl2 : ys.length ≤ 1000000) (h0 : bval ys ≠ 0) :
    Calls Tryd.prog 40 #[.slice ad xs.length ca, .slice bd ys.length cb] w (DivModPost (bval xs / bval ys) (bval xs % bval ys) w) := by
  rcases Nat.lt_or_ge (bval xs) (bval ys) with h1 | h1
  · exact divMod_less ad bd ca cb xs ys w h g hl hl2 h1
  · have h2 : 0 < (canon (bval ys)).length := by rw [canon_pos _ h0]; simp
    by_cases h3 : (canon (bval ys)).length = 1
    · exact divMod_word ad bd ca cb xs ys w h g hl hl2 h1 h3
    · exact divMod_long ad bd ca cb xs ys w h g hl hl2 h1 (by omega)
end Go.Proofs.YtmieegcnfnoiiaaDoor
