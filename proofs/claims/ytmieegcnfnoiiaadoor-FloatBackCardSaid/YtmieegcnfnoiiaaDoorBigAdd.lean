/-
  The contracts of big.Trim and big.Add. Condition: the slices have at most 2^30 words.
-/
import Derived.Test.YtmieegcnfnoiiaaDoorBigTrim
import Derived.Test.YtmieegcnfnoiiaaDoorBits32
namespace Go.Proofs.YtmieegcnfnoiiaaDoor
open Go.RowKit Gx
set_option maxRecDepth 100000

theorem Tryd.info_u32 : (Tryd.prog.info? 27).map (fun i => (i.zero, i.size, i.bytes)) = some (some (.int .u32 0), 1, 4) := by kernel_rfl

theorem bval_take_succ (l : List Int) (k : Nat) : bval (l.take (k + 1)) = bval (l.take k) + 4294967296 ^ k * (l.getD k 0).toNat := by
  by_cases h : k < l.length
  · rw [List.take_succ_eq_append_getElem h, bval_append]
    simp [bval, List.getD, List.getElem?_eq_getElem h, Nat.min_eq_left (Nat.le_of_lt h)]
  · rw [List.take_of_length_le (by omega), List.take_of_length_le (by omega)]
    simp [List.getD, List.getElem?_eq_none (show l.length ≤ k by omega)]
theorem words_getD {l : List Int} (h : Words l) (k : Nat) : 0 ≤ l.getD k 0 ∧ l.getD k 0 ≤ 4294967295 := by
  by_cases hk : k < l.length
  · have := h _ (List.getElem_mem hk)
    simp [List.getD, List.getElem?_eq_getElem hk]; omega
  · simp [List.getD, List.getElem?_eq_none (show l.length ≤ k by omega)]
theorem wf_words {l : List Int} (h : Words l) : ∀ x ∈ l, (Lit.int .u32 x).wf = true := by
  intro x hx
  have := h x hx
  simp [Lit.wf, IntKind.min, IntKind.max, IntKind.signed, IntKind.bits]
  omega

/-- a call that hands back the words of n, in memory that is old or its own; what was there is as it was -/
def WordsPost (n : Nat) (w : World) (e : Ending) (w' : World) : Prop :=
  ∃ ad cap, e = .returned (.slice ad (canon n).length cap) ∧ Rd .u32 w' ad cap (canon n) ∧ Below w.heap.size w w'

set_option maxHeartbeats 400000 in
theorem bigTrim_any (ad : Option Addr) (cap : Nat) (xs : List Int) (w : World) (h : Rd .u32 w ad cap xs) (hl : xs.length ≤ 1073741824) :
    Calls Tryd.prog 30 #[.slice ad xs.length cap] w (WordsPost (bval xs) w) := by
  have hlen : (canon (bval xs)).length ≤ 1073741824 := by
    obtain ⟨m, hm, e⟩ := canon_take xs (words_of_rd h)
    rw [e]; simp; omega
  obtain ⟨s1, s2, s3, s4⟩ := h.trim.src
  have S2 := Lib.hid s2
  have S3 := Lib.hid s3
  have S4 := Lib.hid s4
  have H := Lib.hid h
  clear s1 s2 s3 s4 h
  go_enter Tryd.func30, Tryd.ntmps30
  go_wp2_with (first
    | (go_at_call 26; refine (trimmed_any ad cap xs w H.out (by omega)).mono ?_; rintro e w' ⟨rfl, rfl⟩)
    | (at_builtin; refine Gx.wpList_append_all w rfl _ _ 29 rfl w.heap.size 27 (.int .u32 0) 1 4 Tryd.underlying29 Tryd.info_u32 rfl (by decide) _ 0 [] ad _ cap ((canon (bval xs)).map (Value.int .u32)) rfl rfl (World.ownsRow_nil _ _ _ _) (by simp) S2.out S3.out S4.out ?_ ?_ (Nat.le_refl _) ?_))
  · omega
  · omega
  intro v' w' hown hg _
  have hb : Below w.heap.size w w' := Gx.grown_below hg (Nat.le_refl _) (by simp [Value.ownBlock])
  obtain ⟨ad', cap', rfl, hr⟩ := Gx.Rd.own (k := .u32) (xs := canon (bval xs)) (by simpa using hown) (wf_words (canon_words _))
  clear hown hg
  go_wp2
  go_ret
  exact ⟨ad', cap', rfl, hr, hb⟩
end Go.Proofs.YtmieegcnfnoiiaaDoor
