/-
  The walk of typecasekeep.FloatNear, of any word. No conditions.
-/
import Derived.Test.YtmieegcnfnoiiaaDoorFloatNear
namespace Go.Proofs.YtmieegcnfnoiiaaDoor
open Go.RowKit Gx
theorem nat_of_u64 (o : Int) (h : (Lit.int .u64 o).wf = true) : ∃ n : Nat, o = (n : Int) ∧ n < 18446744073709551616 := by
  simp [Lit.wf, IntKind.min, IntKind.max, IntKind.signed, IntKind.bits] at h
  exact ⟨o.toNat, by omega, by omega⟩
theorem floatNear_all (ad : Option Addr) (ca : Nat) (xs : List Int) (e o : Int) (w : World) (h : Rd .u32 w ad ca xs) (ho : (Lit.int .u64 o).wf = true) :
    Calls Tryd.prog 5 #[.slice ad xs.length ca, .int .i64 e, .int .u64 o] w (TruePost2 w) := by
  obtain ⟨n, rfl, hn⟩ := nat_of_u64 o ho
  exact floatNear_walk ad ca xs e n w h hn
end Go.Proofs.YtmieegcnfnoiiaaDoor
