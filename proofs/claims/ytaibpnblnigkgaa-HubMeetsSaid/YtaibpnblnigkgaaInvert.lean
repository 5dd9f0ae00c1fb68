/-
  The contracts of splice.Invert. Conditions: the parts lie where the argument says.
-/
import Derived.Test.YtaibpnblnigkgaaSpliceNorm
namespace Go.Proofs.Ytaibpnblnigkgaa
open Go.RowKit Gx

theorem inv_bound (xs : List U) (s : List UInt8) : U.over (inv xs s) + U.makes (inv xs s) ≤ U.over xs + U.makes xs := by
  induction xs generalizing s with
  | nil => simp [inv]
  | cons u r ih =>
    cases u with
    | k => have := ih (s.drop 1); simp only [inv, U.over, U.makes]; omega
    | c => cases s with
      | nil => have := ih []; simp only [inv, U.over, U.makes]; omega
      | cons a s => have := ih s; simp only [inv, U.over, U.makes]; omega
    | p b => have := ih s; simp only [inv, U.over, U.makes]; omega

/-- what builders make of few bytes are numbers, and texts, of few bytes -/
theorem wf_nf {us : List U} (h : U.over us + U.makes us ≤ 90000) : ∀ q ∈ nf us, (Lit.int .i64 q.1).wf = true ∧ (Lit.int .i64 q.2.1).wf = true ∧ q.2.2.length ≤ 9223372036854775807 := by
  intro q hq
  have hz := nz_nf us q hq
  obtain ⟨hk, hn, h3, h4⟩ := hz.1
  have hs := same_nf us
  have h1 := over_ex1 q hz.1
  have h2 := makes_ex1 q hz.1
  have h5 := over_mem hq
  have h6 := makes_mem hq
  rw [hs.over] at h5
  rw [hs.makes] at h6
  have hN : q.2.1 ≤ 90000 := by
    by_cases h7 : q.1 = 3
    · have := h3 h7; omega
    · rw [if_neg h7] at h1; omega
  have hS : q.2.2.length ≤ 90000 := by
    by_cases h7 : q.1 = 2
    · have := h4 (by omega); rw [this]; simp
    · rw [if_neg h7] at h2; omega
  refine ⟨?_, ?_, by omega⟩
  · simp [Lit.wf, IntKind.min, IntKind.max, IntKind.signed, IntKind.bits]; omega
  · simp [Lit.wf, IntKind.min, IntKind.max, IntKind.signed, IntKind.bits]; omega

theorem RestAt.front {S : List UInt8} {l : List Part} {j ov : Nat} {t : ByteArray} (h : RestAt S l j ov t) (n : Nat) : t.extract 0 n = bs ((S.drop ov).take n) := by rw [h.t, bs_front]

/-- the builder of the way back -/
abbrev invSt (S : List UInt8) (l : List Part) (j : Nat) : Bst := stU (inv (ex (l.take j)) S)

theorem invSt_step (S : List UInt8) (l : List Part) (j ov : Nat) (q r : Part) (hq : l[j]? = some q) (ho : ov = U.over (ex (l.take j))) (hr : okP r) (he : ex1 r = inv (ex1 q) (S.drop ov)) : addS (invSt S l j) r = invSt S l (j + 1) := by
  unfold invSt
  rw [stU_add _ _ hr, he, ex_take l j q hq, inv_append, ho]

theorem invSt_small (S : List UInt8) (l : List Part) (j : Nat) (r : Part) (ho : U.over (ex l) ≤ 20000) (hm : U.makes (ex l) ≤ 20000) (hn : r.2.1 ≤ 90000) (hs : r.2.2.length ≤ 90000) : Small (invSt S l j) r := by
  have h1 := take_bound l j
  have h2 := inv_bound (ex (l.take j)) S
  exact small_of _ r (by omega) hn hs

end Go.Proofs.Ytaibpnblnigkgaa
