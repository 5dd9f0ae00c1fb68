/-
  The contract of slices.Clone of steps; a copy with others behind. No conditions.
-/
import Derived.Test.YtpjigecmnefnhaaDoorStepRow
import Derived.Test.YtpjigecmnefnhaaDoorPathChk
namespace Go.Proofs.YtpjigecmnefnhaaDoor
open Go.RowKit Gx
set_option maxRecDepth 100000

/-- a row of its own of steps -/
def SOwn (w : World) (base : Nat) (v : Value) (l : List Step) : Prop := w.ownsRow base 33 2 v l.length (stepCells l)
def ClonePost (l : List Step) (w : World) (e : Ending) (w' : World) : Prop := ∃ ao c, e = .returned (.slice ao l.length c) ∧ SOwn w' w.heap.size (.slice ao l.length c) l ∧ Below w.heap.size w w'
/-- the cells of a slice, one behind the other -/
theorem SR.cells {w : World} {ad : Option Addr} {cap : Nat} {l : List Step} (h : SR w ad cap l) : ∀ a, ad = some a → ∀ j u, (stepCells l)[j]? = some u → w.cell? (a.add j) = some u := by
  intro a ha j u hj
  have hjl : j < l.length * 2 := by have := (List.getElem?_eq_some_iff.1 hj).1; rw [stepCells_len] at this; exact this
  have hp : 0 < l.length := by omega
  obtain ⟨b, off, e, -, hc⟩ := h.addr hp
  rw [ha] at e
  cases e
  obtain ⟨q, hq⟩ : ∃ q, l[j / 2]? = some q := ⟨_, List.getElem?_eq_getElem (by omega)⟩
  obtain ⟨c0, c1⟩ := hc _ q hq
  obtain ⟨s0, s1⟩ := stepCells_at l _ q hq
  rw [Addr.add_lit]
  rcases Nat.mod_two_eq_zero_or_one j with h2 | h2
  · have e : j / 2 * 2 = j := by omega
    rw [e] at c0 s0
    rw [s0] at hj
    cases hj
    exact c0
  · have e : j / 2 * 2 + 1 = j := by omega
    rw [Nat.add_assoc, e] at c1
    rw [e] at s1
    rw [s1] at hj
    cases hj
    exact c1
set_option maxHeartbeats 4000000 in
theorem clone_any (ad : Option Addr) (cap : Nat) (l : List Step) (w : World) (h : SR w ad cap l) (hl : l.length ≤ 20) :
    Calls Tryd.prog 7 #[.slice ad l.length cap] w (ClonePost l w) := by
  have q22 : ∀ (w : World) (a : Option Addr) (n c n' c' : Nat), (binOp .eql 27 (.slice a n c) (.slice none n' c')).run Tryd.prog w = .ok (.bool a.isNone) w := fun w a n c n' c' => Lib.run_eql_slice_nil w _ _ a n c n' c' Tryd.underlying27
  cases ad with
  | none =>
    have : l = [] := List.eq_nil_of_length_eq_zero (by have h1 := h.none_ rfl; have h2 := h.ncap; omega)
    subst this
    go_enter Tryd.func7, Tryd.ntmps7
    go_wp2_with fail
    try go_ret
    exact ⟨none, 0, rfl, World.ownsRow_nil _ _ _ _, Below.refl _ _⟩
  | some a =>
    have HC := Lib.hid (fun j u hj => (h.keep ((Below.refl _ w).alloc (Nat.le_refl _) (.cells #[] 33))).cells a rfl j u hj)
    have hlen := stepCells_len l
    obtain ⟨n, hn⟩ : ∃ n, l.length = n := ⟨_, rfl⟩
    rw [hn] at hl hlen ⊢
    have HN := Lib.hid hn
    have HLE := Lib.hid hlen
    have hown : (w.alloc (.cells #[] 33)).ownsRow w.heap.size 33 2 (.slice (some ⟨w.heap.size, 0, none⟩) 0 0) 0 [] :=
      ⟨rfl, .inr ⟨w.heap.size, 0, #[], rfl, Nat.le_refl _, heap_alloc_new _ _, Nat.le_refl _, Nat.zero_le _, rfl, rfl⟩⟩
    have HO := Lib.hid hown
    clear hown h hn hlen
    go_enter Tryd.func7, Tryd.ntmps7
    go_wp2_with (at_builtin; refine Gx.wpList_append_all (w.alloc (.cells #[] 33)) rfl (.tmp 5) (.tmp 6) 27 rfl w.heap.size 33 (.agg #[.string ⟨#[]⟩, .int .i64 0]) 2 24 Tryd.underlying27 Tryd.info_step rfl (by decide) (.slice (some ⟨w.heap.size, 0, none⟩) 0 0) 0 [] (some a) n cap (stepCells l) rfl rfl HO.out HLE.out (fun e => by simp at e) (fun a' e j u hj => by cases e; exact HC.out j u hj) (stepCells_one l) (by omega) (by omega) (by rw [World.size_alloc]; omega) ?_; intro v' w' hown' hg' _)
    obtain ⟨vo, vc, rfl⟩ := own_form hown'
    have HOW := Lib.hid hown'
    have HG := Lib.hid hg'
    clear hown' hg'
    go_wp2_with fail
    try go_ret
    refine ⟨vo, vc, by rw [HN.out, Nat.zero_add]; rfl, ?_, ((Below.refl w.heap.size w).alloc (Nat.le_refl _) _).grown HG.out (by rw [World.size_alloc]; omega) (fun k e => by have : k = w.heap.size := (Option.some.inj e).symm; omega)⟩
    have := HOW.out
    rw [Nat.zero_add, List.nil_append] at this
    unfold SOwn
    rw [HN.out]
    exact this
end Go.Proofs.YtpjigecmnefnhaaDoor
