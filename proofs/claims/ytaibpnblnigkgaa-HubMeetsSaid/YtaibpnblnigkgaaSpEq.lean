/-
  slices.Equal of two lists of parts that are the same; the statements' first question. Conditions: the parts lie where the arguments say.
-/
import Derived.Test.YtaibpnblnigkgaaApply
namespace Go.Proofs.Ytaibpnblnigkgaa
open Go.RowKit Gx

theorem wf_of_chk {l : List Part} (h : chk l = 0) : ∀ q ∈ l, (Lit.int .i64 q.1).wf = true ∧ (Lit.int .i64 q.2.1).wf = true ∧ q.2.2.length ≤ 9223372036854775807 := by
  intro q hq
  obtain ⟨⟨hk, hn, -, -⟩, h1, h2⟩ := partErr_ok ((chk_zero.1 h).2.1 q hq)
  refine ⟨?_, ?_, by omega⟩
  · simp [Lit.wf, IntKind.min, IntKind.max, IntKind.signed, IntKind.bits]; omega
  · simp [Lit.wf, IntKind.min, IntKind.max, IntKind.signed, IntKind.bits]; omega

/-- a call that makes parts, and says that all is well -/
def PartsPost (l : List Part) (w : World) (e : Ending) (w' : World) : Prop :=
  ∃ mo mc, e = .returned (.tuple #[.slice mo l.length mc, .int .i64 0]) ∧ (PR w' mo mc l ∧ ∀ a, mo = some a → w.heap.size ≤ a.block) ∧ Below w.heap.size w w'

theorem Norm_pr (ad : Option Addr) (cap : Nat) (l : List Part) (w : World) (h : PR w ad cap l) (hl : chk l = 0) :
    Calls Try.prog 26 #[.slice ad l.length cap] w (PartsPost (nf (ex l)) w) := by
  refine (Norm_ok ad cap l w h hl).mono ?_
  rintro e w' ⟨vo, vc, rfl, hown, hb⟩
  obtain ⟨mo, mc, hv, hp, hfr⟩ := PR.own hown rfl (wf_of_chk (chk_nf hl))
  rw [hv]
  exact ⟨mo, mc, rfl, ⟨hp, hfr⟩, hb⟩
def TruePost (w : World) (e : Ending) (w' : World) : Prop := e = .returned (.bool true) ∧ Below w.heap.size w w'
end Go.Proofs.Ytaibpnblnigkgaa
