/-
  Steps of paths, plainly. No conditions.
-/
import Derived.Test.YtpjigecmnefnhaaDoorUtf8Law
namespace Go.Proofs.YtpjigecmnefnhaaDoor
open Go.RowKit Gx

abbrev Step := List UInt8 × Int
def StepOk (x : Step) : Prop := -1 ≤ x.2 ∧ (0 ≤ x.2 → x.1 = []) ∧ x.1.length ≤ 100 ∧ okText x.1
def PathOk (p : List Step) : Prop := p.length ≤ 20 ∧ ∀ x ∈ p, StepOk x
end Go.Proofs.YtpjigecmnefnhaaDoor
