/-
  The contracts of big.trimmed and slices.Equal at words. Condition: the slices have at most 2^40 words.
-/
import Derived.Test.YtmieegcnfnoiiaaDoorProg
import Derived.WalkLawsBesides
import Derived.Deep.DeepFit
import Derived.Test.YtmieegcnfnoiiaaDoorRd
import Derived.Test.YtmieegcnfnoiiaaDoorBigLaw
namespace Go.Proofs.YtmieegcnfnoiiaaDoor
open Go.RowKit Gx
set_option maxRecDepth 100000

theorem words_of_rd {w : World} {ad : Option Addr} {cap : Nat} {xs : List Int} (h : Rd .u32 w ad cap xs) : Words xs := by
  intro x hx
  have := h.wf x hx
  simp [Lit.wf, IntKind.min, IntKind.max, IntKind.signed, IntKind.bits] at this
  omega

theorem bval_zeros (l : List Int) (h : ∀ x ∈ l, x = 0) : bval l = 0 := by
  induction l with
  | nil => rfl
  | cons x l ih => simp [bval, ih (fun y hy => h y (by simp [hy])), h x (by simp)]

/-- where trimming ends -/
theorem trim_done (xs : List Int) (hw : Words xs) (m : Nat) (hm : m ≤ xs.length) (hz : ∀ j, m ≤ j → j < xs.length → xs.getD j 0 = 0) (hl : m = 0 ∨ xs.getD (m - 1) 0 ≠ 0) :
    canon (bval xs) = xs.take m := by
  have h1 : bval xs = bval (xs.take m) := by
    conv => lhs; rw [← List.take_append_drop m xs]
    rw [bval_append, bval_zeros (xs.drop m)]
    · simp
    · intro x hx
      obtain ⟨i, hi, rfl⟩ := List.getElem_of_mem hx
      rw [List.getElem_drop]
      have := hz (m + i) (by omega) (by simp at hi; omega)
      simpa [List.getD, List.getElem?_eq_getElem (show m + i < xs.length by simp at hi; omega)] using this
  rw [h1]
  refine canon_bval _ (fun x hx => hw x (List.mem_of_mem_take hx)) ?_
  intro x hx
  rcases hl with rfl | hl
  · simp at hx
  · rw [List.getLast?_eq_getElem?] at hx
    have hlen : (xs.take m).length = m := by simp; omega
    rw [hlen] at hx
    by_cases h0 : m = 0
    · subst h0; simp at hx
    · rw [List.getElem?_take] at hx
      rw [if_pos (by omega)] at hx
      intro e
      apply hl
      simp [List.getD, hx, e]

theorem canon_take (xs : List Int) (hw : Words xs) : ∃ m, m ≤ xs.length ∧ canon (bval xs) = xs.take m := by
  have h : ∀ n m, m ≤ xs.length → (∀ j, m ≤ j → j < xs.length → xs.getD j 0 = 0) → m ≤ n → ∃ m, m ≤ xs.length ∧ canon (bval xs) = xs.take m := by
    intro n
    induction n with
    | zero => intro m hm hz hn; exact ⟨m, hm, trim_done xs hw m hm hz (.inl (by omega))⟩
    | succ n ih =>
      intro m hm hz hn
      by_cases h0 : m = 0
      · exact ⟨m, hm, trim_done xs hw m hm hz (.inl h0)⟩
      by_cases h1 : xs.getD (m - 1) 0 = 0
      · refine ih (m - 1) (by omega) (fun j h2 h3 => ?_) (by omega)
        by_cases h4 : j = m - 1
        · rw [h4]; exact h1
        · exact hz j (by omega) h3
      · exact ⟨m, hm, trim_done xs hw m hm hz (.inr h1)⟩
  exact h xs.length xs.length (Nat.le_refl _) (fun j h1 h2 => by omega) (Nat.le_refl _)

theorem Gx.Rd.trim {w : World} {ad : Option Addr} {cap : Nat} {xs : List Int} (h : Rd .u32 w ad cap xs) : Rd .u32 w ad cap (canon (bval xs)) := by
  obtain ⟨m, hm, e⟩ := canon_take xs (words_of_rd h)
  rw [e]; exact h.front m hm

def TrimmedPost (ad : Option Addr) (cap : Nat) (xs : List Int) (w : World) (e : Ending) (w' : World) : Prop :=
  e = .returned (.slice ad (canon (bval xs)).length cap) ∧ w = w'

set_option maxHeartbeats 400000 in
theorem trimmed_any (ad : Option Addr) (cap : Nat) (xs : List Int) (w : World) (h : Rd .u32 w ad cap xs) (hl : xs.length ≤ 1099511627776) :
    Calls Tryd.prog 26 #[.slice ad xs.length cap] w (TrimmedPost ad cap xs w) := by
  have hw := words_of_rd h
  by_cases h0 : xs.length = 0
  · obtain rfl : xs = [] := List.eq_nil_of_length_eq_zero h0
    go_enter Tryd.func26, Tryd.ntmps26
    go_wp2
    refine wp_loop_rounds 1 ?_
    rw [rounds_succ]
    go_wp2
    go_ret
    exact ⟨rfl, rfl⟩
  obtain ⟨b, off, rfl, -, hc⟩ := h.addr (by omega)
  have hnc := h.ncap
  have h63 := h.cap63
  have HC := Lib.hid hc
  have HW := Lib.hid hw
  clear hc hw h h0
  go_enter Tryd.func26, Tryd.ntmps26
  go_wp2
  go_loop [0] (fun v => ∃ m : Nat, m ≤ xs.length ∧ v = .slice (some ⟨b, off, none⟩) m cap ∧ Hid (∀ j, m ≤ j → j < xs.length → xs.getD j 0 = 0))
    (fun v => match v with | .slice _ n _ => n | _ => 0)
  case atStart => exact ⟨xs.length, Nat.le_refl _, rfl, fun j h1 h2 => by omega⟩
  case round =>
    obtain ⟨m, hm, rfl, hz⟩ := hrel
    by_cases hm0 : m = 0
    · subst hm0
      go_wp2
      go_ret
      have := trim_done xs HW.out 0 (by omega) hz.out (.inl rfl)
      exact ⟨by rw [this]; rfl, rfl⟩
    · have hc1 := HC.out (m - 1) (by omega)
      obtain ⟨x, hx⟩ : ∃ x, x = xs.getD (m - 1) 0 := ⟨_, rfl⟩
      rw [← hx] at hc1
      have HX := Lib.hid hx; clear hx
      have hpos : (0 : Int) < (m : Int) := by omega
      by_cases hx0 : x = 0
      · subst hx0
        have hb : ((0 : Int) == 0) = true := rfl
        go_wp2
        go_round
        case rel =>
          refine ⟨m - 1, by omega, rfl, fun j h1 h2 => ?_⟩
          by_cases h4 : j = m - 1
          · rw [h4]; exact HX.out.symm
          · exact hz.out j (by omega) h2
        case measure => simp; omega
      · have hb : (x == 0) = false := by simpa using hx0
        go_wp2
        go_ret
        have := trim_done xs HW.out m hm hz.out (.inr (by rw [← HX.out]; exact hx0))
        refine ⟨?_, rfl⟩
        rw [this, List.length_take, Nat.min_eq_left hm]; rfl
end Go.Proofs.YtmieegcnfnoiiaaDoor
