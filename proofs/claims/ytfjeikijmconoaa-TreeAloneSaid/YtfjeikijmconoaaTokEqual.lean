/-
  slices.Equal of two lists of tokens whose cells are the same. Conditions: the cells, in the world.
-/
import Derived.Test.YtfjeikijmconoaaTokFrontLaw
namespace Go.Proofs.Ytfjeikijmconoaa
open Go.RowKit Gx

/-- the cells of a list of tokens at a place -/
def TokAt (w : World) (ad : Option Addr) (l : List Tok) : Prop :=
  l = [] ∨ ∃ b, ad = some ⟨b, 0, none⟩ ∧ b < w.heap.size ∧ ∀ k v, (tokCells l)[k]? = some v → w.cell? ⟨b, k, none⟩ = some v

theorem TokAt.keep {w w' : World} {ad : Option Addr} {l : List Tok} (h : TokAt w ad l) (hb : Below w.heap.size w w') : TokAt w' ad l := by
  rcases h with h | ⟨b, h1, h2, h3⟩
  · exact .inl h
  · exact .inr ⟨b, h1, Nat.lt_of_lt_of_le h2 hb.size, fun k v hv => by rw [hb.cell (p := ⟨b, k, none⟩) h2]; exact h3 k v hv⟩

set_option maxHeartbeats 2000000 in
theorem tokEqual_any (ad bd : Option Addr) (ca cb : Nat) (l : List Tok) (w : World) (h : TokAt w ad l) (g : TokAt w bd l) (hl : l.length ≤ 20000) :
    Calls Try.prog 11 #[.slice ad l.length ca, .slice bd l.length cb] w (TruePost w) := by
  by_cases h0 : l.length = 0
  · obtain rfl : l = [] := List.eq_nil_of_length_eq_zero h0
    go_enter Try.func11, Try.ntmps11
    go_wp2
    refine wp_loop_rounds 1 ?_
    rw [rounds_succ]
    go_wp2
    go_ret
    exact ⟨rfl, Below.refl _ _⟩
  obtain ⟨b1, rfl, -, hc1⟩ := h.resolve_left (by intro h; subst h; exact h0 rfl)
  obtain ⟨b2, rfl, -, hc2⟩ := g.resolve_left (by intro h; subst h; exact h0 rfl)
  have HC1 := Lib.hid hc1
  have HC2 := Lib.hid hc2
  clear hc1 hc2 h g h0
  obtain ⟨n, hn⟩ : ∃ n, n = l.length := ⟨_, rfl⟩
  rw [← hn] at hl ⊢
  have HN := Lib.hid hn
  clear hn
  go_enter Try.func11, Try.ntmps11
  go_wp2
  go_loopw [13] (fun i wr => ∃ k : Nat, k ≤ n ∧ i = .int .i64 k ∧ Hid (∃ n, wr = w.drewN n)) (fun i _ => n - (intOf i).toNat)
  case atStart => exact ⟨0, Nat.zero_le _, rfl, 0, rfl⟩
  case round =>
    obtain ⟨k, hk, rfl, hw⟩ := hrel
    by_cases hlt : k < n
    · have hkn : k < l.length := by have := HN.out; omega
      have hg := tokCells_get l k hkn
      have hr : ∀ b j v, w.cell? ⟨b, j, none⟩ = some v → wr.cell? ⟨b, j, none⟩ = some v := by
        intro b j v h; obtain ⟨n, e⟩ := hw.out; rw [e, World.cell?_drewN]; exact h
      obtain ⟨K, hK⟩ : ∃ K, K = (l[k]).1 := ⟨_, rfl⟩
      obtain ⟨A, hA⟩ : ∃ A, A = (l[k]).2.1 := ⟨_, rfl⟩
      obtain ⟨E, hE⟩ : ∃ E, E = (l[k]).2.2 := ⟨_, rfl⟩
      rw [← hK, ← hA, ← hE] at hg
      have c0 := hr _ _ _ (HC1.out _ _ hg.1)
      have c1 := hr _ _ _ (HC1.out _ _ hg.2.1)
      have c2 := hr _ _ _ (HC1.out _ _ hg.2.2)
      have d0 := hr _ _ _ (HC2.out _ _ hg.1)
      have d1 := hr _ _ _ (HC2.out _ _ hg.2.1)
      have d2 := hr _ _ _ (HC2.out _ _ hg.2.2)
      clear hr hg hK hA hE hkn
      have hi1 : (0 : Int) ≤ (k : Int) := by omega
      have hi2 : (k : Int) < (n : Int) := by omega
      go_wp2
      go_quiet (fail)
      go_wp2
      go_roundw
      case rel => exact ⟨k + 1, by omega, by go_num, by obtain ⟨n, e⟩ := hw.out; exact ⟨n + nq, by rw [e, World.drewN_drewN]⟩⟩
      case measure => simp [intOf]; omega
    · obtain rfl : k = n := by omega
      go_wp2
      go_ret
      obtain ⟨n, e⟩ := hw.out
      exact ⟨rfl, by rw [e]; exact Gx.drewN_below _ _ _⟩
end Go.Proofs.Ytfjeikijmconoaa
