/-
  slices.Equal of two lists of parts that are the same; the statements' first question. Conditions: the parts lie where the arguments say.
-/
import Derived.Test.YtacmgnidnonjhaaApply
namespace Go.Proofs.Ytacmgnidnonjhaa
open Go.RowKit Gx

theorem wf_of_chk {l : List Part} (h : chk l = 0) : ∀ q ∈ l, (Lit.int .i64 q.1).wf = true ∧ (Lit.int .i64 q.2.1).wf = true ∧ q.2.2.length ≤ 9223372036854775807 := by
  intro q hq
  obtain ⟨⟨hk, hn, -, -⟩, h1, h2⟩ := partErr_ok ((chk_zero.1 h).2.1 q hq)
  refine ⟨?_, ?_, by omega⟩
  · simp [Lit.wf, IntKind.min, IntKind.max, IntKind.signed, IntKind.bits]; omega
  · simp [Lit.wf, IntKind.min, IntKind.max, IntKind.signed, IntKind.bits]; omega

/-- a call that makes parts, and says that all is well -/
def PartsPost (l : List Part) (w : World) (e : Ending) (w' : World) : Prop :=
  ∃ mo mc, e = .returned (.tuple #[.slice mo l.length mc, .int .i64 0]) ∧ PR w' mo mc l ∧ Below w.heap.size w w'

theorem Norm_pr (ad : Option Addr) (cap : Nat) (l : List Part) (w : World) (h : PR w ad cap l) (hl : chk l = 0) :
    Calls Try.prog 9 #[.slice ad l.length cap] w (PartsPost (nf (ex l)) w) := by
  refine (Norm_ok ad cap l w h hl).mono ?_
  rintro e w' ⟨vo, vc, rfl, hown, hb⟩
  obtain ⟨mo, mc, hv, hp, -⟩ := PR.own hown rfl (wf_of_chk (chk_nf hl))
  rw [hv]
  exact ⟨mo, mc, rfl, hp, hb⟩
theorem Sizes_ok (ad : Option Addr) (cap : Nat) (l : List Part) (w : World) (h : PR w ad cap l) (hl : chk l = 0) :
    Calls Try.prog 10 #[.slice ad l.length cap] w fun e w' => e = .returned (.tuple #[.int .i64 (U.over (ex l)), .int .i64 (U.makes (ex l)), .int .i64 0]) ∧ Below w.heap.size w w' := by
  refine (Sizes_any ad cap l w h).mono ?_
  rintro e w' ⟨rfl, hb⟩
  refine ⟨?_, hb⟩
  unfold ovOf mkOf
  rw [hl, if_pos rfl, if_pos rfl]
theorem Sizes_no (ad : Option Addr) (cap : Nat) (l : List Part) (w : World) (h : PR w ad cap l) (hl : chk l ≠ 0) :
    Calls Try.prog 10 #[.slice ad l.length cap] w fun e w' => e = .returned (.tuple #[.int .i64 0, .int .i64 0, .int .i64 (chk l)]) ∧ Below w.heap.size w w' := by
  refine (Sizes_any ad cap l w h).mono ?_
  rintro e w' ⟨rfl, hb⟩
  refine ⟨?_, hb⟩
  unfold ovOf mkOf
  rw [if_neg hl, if_neg hl]

/-- what answers yes, and changes nothing that was there -/
def TruePost (w : World) (e : Ending) (w' : World) : Prop := e = .returned (.bool true) ∧ Below w.heap.size w w'

set_option maxHeartbeats 2000000 in
theorem partEqual_any (ad bd : Option Addr) (ca cb : Nat) (l : List Part) (w : World) (h : PR w ad ca l) (g : PR w bd cb l) (hl : l.length ≤ 100000) :
    Calls Try.prog 12 #[.slice ad l.length ca, .slice bd l.length cb] w (TruePost w) := by
  by_cases h0 : l.length = 0
  · obtain rfl : l = [] := List.eq_nil_of_length_eq_zero h0
    go_enter Try.func12, Try.ntmps12
    go_wp2
    refine wp_loop_rounds 1 ?_
    rw [rounds_succ]
    go_wp2
    go_ret
    exact ⟨rfl, Below.refl _ _⟩
  obtain ⟨b1, o1, rfl, -, hc1⟩ := h.addr (by omega)
  obtain ⟨b2, o2, rfl, -, hc2⟩ := g.addr (by omega)
  have HC1 := Lib.hid hc1
  have HC2 := Lib.hid hc2
  clear hc1 hc2 h g h0
  obtain ⟨n, hn⟩ : ∃ n, n = l.length := ⟨_, rfl⟩
  rw [← hn] at hl ⊢
  have HN := Lib.hid hn
  clear hn
  go_enter Try.func12, Try.ntmps12
  go_wp2
  go_loopw [13] (fun i wr => ∃ k : Nat, k ≤ n ∧ i = .int .i64 k ∧ Hid (∃ n, wr = w.drewN n)) (fun i _ => n - (intOf i).toNat)
  case atStart => exact ⟨0, Nat.zero_le _, rfl, 0, rfl⟩
  case round =>
    obtain ⟨k, hk, rfl, hw⟩ := hrel
    by_cases hlt : k < n
    · have hkn : k < l.length := by have := HN.out; omega
      obtain ⟨q, hq⟩ : ∃ q, l[k]? = some q := ⟨_, List.getElem?_eq_getElem hkn⟩
      have hr : ∀ b j v, w.cell? ⟨b, j, none⟩ = some v → wr.cell? ⟨b, j, none⟩ = some v := by
        intro b j v h; obtain ⟨n, e⟩ := hw.out; rw [e, World.cell?_drewN]; exact h
      obtain ⟨c0, c1, c2⟩ := HC1.out k q hq
      obtain ⟨d0, d1, d2⟩ := HC2.out k q hq
      replace c0 := hr _ _ _ c0
      replace c1 := hr _ _ _ c1
      replace c2 := hr _ _ _ c2
      replace d0 := hr _ _ _ d0
      replace d1 := hr _ _ _ d1
      replace d2 := hr _ _ _ d2
      obtain ⟨kind, N, p⟩ := q
      simp only at c0 c1 c2 d0 d1 d2
      clear hr hq hkn
      have hi1 : (0 : Int) ≤ (k : Int) := by omega
      have hi2 : (k : Int) < (n : Int) := by omega
      go_wp2
      go_quiet (fail)
      go_wp2
      go_roundw
      case rel => exact ⟨k + 1, by omega, by go_num, by obtain ⟨n, e⟩ := hw.out; exact ⟨n + nq, by rw [e, World.drewN_drewN]⟩⟩
      case measure => simp [intOf]; omega
    · obtain rfl : k = n := by omega
      go_wp2
      go_ret
      obtain ⟨n, e⟩ := hw.out
      exact ⟨rfl, by rw [e]; exact Gx.drewN_below _ _ _⟩

theorem splices_any (w : World) : Calls Try.prog 8 #[] w (TruePost w) := by
  have hpr : PR (w.alloc (.cells #[.int .i64 3, .int .i64 0, .string ⟨#[120]⟩] 33)) (some ⟨w.heap.size, 0, none⟩) 1 [(3, 0, [120])] := by
    refine ⟨by decide, by decide, fun q hq => ?_, (fun h => by cases h), fun a ha _ => ?_⟩
    · simp at hq; subst hq; exact ⟨by decide, by decide, by decide⟩
    · obtain rfl := Option.some.inj ha
      refine ⟨rfl, by simp, fun j q hj => ?_⟩
      cases j with
      | zero =>
        simp at hj; subst hj
        exact ⟨World.cell?_alloc_mark w _ _ (0, 0) 0, World.cell?_alloc_mark w _ _ (0, 0) 1, World.cell?_alloc_mark w _ _ (0, 0) 2⟩
      | succ j => simp at hj
  have hb := (Below.refl w.heap.size w).alloc (Nat.le_refl _) (.cells #[.int .i64 3, .int .i64 0, .string ⟨#[120]⟩] 33)
  have H := Lib.hid (Apply_ok ⟨#[]⟩ _ _ _ _ hpr (by decide))
  have HB := Lib.hid hb
  clear hpr hb
  go_enter Try.func8, Try.ntmps8
  go_wp2_with fail
  refine H.out.mono ?_
  rintro e w2 ⟨rfl, hb2⟩
  have HB2 := Lib.hid (HB.out.trans (hb2.mono HB.out.size))
  clear hb2
  have ht : apT (⟨#[]⟩ : ByteArray).data.toList [(3, 0, [120])] = [120] := by decide
  rw [ht]
  go_wp2
  go_ret
  refine ⟨?_, HB2.out⟩
  show Ending.returned (.bool ((bs [120]).toList == [120])) = _
  rw [Lib.toList_data, list_bs]; rfl
end Go.Proofs.Ytacmgnidnonjhaa
