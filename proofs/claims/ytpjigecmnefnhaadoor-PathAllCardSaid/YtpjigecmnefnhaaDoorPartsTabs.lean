/-
  What the rows' lists of PathParts and PathAll give: Go's two tables of utf8; a slice's length is within the form's reach. No conditions.
-/
import Derived.Test.YtpjigecmnefnhaaDoorRows
import Derived.Test.YtpjigecmnefnhaaDoorUtf8Walk
import Derived.Test.YtpjigecmnefnhaaDoorValArg
import Derived.Lib.LaidU8
import Derived.PinnedBridge
import Derived.ProofKit
import Derived.LaidLaws
namespace Go.Proofs.YtpjigecmnefnhaaDoor
open Go.RowKit Gx Go.Deep

theorem pathParts_tabs {W : World} (hL : laidMetH Tryd.prog Rows.pathPartsRow.laid W) : Tabs W := by
  have h := Go.Proofs.utf8Tabs_of_reads Tryd.lays260 ⟨by kernel_rfl, by kernel_rfl, by kernel_rfl, by kernel_rfl, by kernel_rfl, by kernel_rfl, by kernel_rfl⟩
    (w := W) (Pinned.utf8First_eq ▸ Lib.laidMet.reads hL (.tail _ (.tail _ (.tail _ (.tail _ (.head _)))))) ((show Rows.laid_unicode_utf8_acceptRanges = Lib.acceptData by kernel_rfl) ▸ Lib.laidMet.reads hL (.tail _ (.tail _ (.tail _ (.head _)))))
  exact h
theorem pathAll_tabs {W : World} (hL : laidMetH Tryd.prog Rows.pathAllRow.laid W) : Tabs W := by
  have h := Go.Proofs.utf8Tabs_of_reads Tryd.lays260 ⟨by kernel_rfl, by kernel_rfl, by kernel_rfl, by kernel_rfl, by kernel_rfl, by kernel_rfl, by kernel_rfl⟩
    (w := W) (Pinned.utf8First_eq ▸ Lib.laidMet.reads hL (.tail _ (.tail _ (.tail _ (.tail _ (.head _)))))) ((show Rows.laid_unicode_utf8_acceptRanges = Lib.acceptData by kernel_rfl) ▸ Lib.laidMet.reads hL (.tail _ (.tail _ (.tail _ (.head _)))))
  exact h
theorem len_bound {H : Type} {enc : TypeId × Value → H} {w : World} {base : Nat} {spare : Nat → Bool} {held : Bool} {t e : TypeId} {ad : Option Addr} {len cap : Nat} (ht : Tryd.prog.underlying t = some (.slice e)) (hb : decide (1 ≤ Tryd.prog.bytesOf e) = true)
    {n : Nat} {x : DataW H × List MemPlace} (h : DataW.trod enc Tryd.prog w base spare held n t [.slice ad len cap] = some x) (hw : wOk t x.1) : len ≤ 140737488351232 := by
  have hb1 := of_decide_eq_true hb
  rcases DataW.trod_slice ht h with ⟨h1, -⟩ | ⟨a, len', cap', elems, rest, m, rfl, h1, h2, -, hl, hm, hel, hi, -, -⟩
  · have : Value.slice ad len cap = .slice none 0 0 := by simpa using h1
    cases this
    decide
  · have : Value.slice ad len cap = .slice (some a) len' cap' := by simpa using h1
    cases this
    have hw1 : (elems.length + rest.length) * Tryd.prog.bytesOf e ≤ reachBytes := by
      refine hw _ ?_
      rw [h2]
      unfold DataW.weights
      rw [ht]
      simp
    have h3 : (elems.length + rest.length) * 1 ≤ (elems.length + rest.length) * Tryd.prog.bytesOf e := Nat.mul_le_mul_left _ hb1
    have h4 : reachBytes = 140737488351232 := rfl
    omega
end Go.Proofs.YtpjigecmnefnhaaDoor
