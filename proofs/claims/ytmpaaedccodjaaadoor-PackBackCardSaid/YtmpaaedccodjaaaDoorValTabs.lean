/-
  What PackOrder's row's list gives: Go's two tables of utf8. No conditions.
-/
import Derived.Test.YtmpaaedccodjaaaDoorRows
import Derived.Test.YtmpaaedccodjaaaDoorUtf8Walk
import Derived.Lib.LaidU8
import Derived.PinnedBridge
import Derived.ProofKit
import Derived.LaidLaws
namespace Go.Proofs.YtmpaaedccodjaaaDoor
open Go.RowKit Gx

theorem packOrder_tabs {W : World} (hL : laidMetH Tryd.prog Rows.packOrderRow.laid W) : Tabs W := by
  have h := Go.Proofs.utf8Tabs_of_reads Tryd.lays260 ⟨by kernel_rfl, by kernel_rfl, by kernel_rfl, by kernel_rfl, by kernel_rfl, by kernel_rfl, by kernel_rfl⟩
    (w := W) (Pinned.utf8First_eq ▸ Lib.laidMet.reads hL (.tail _ (.head _))) ((show Rows.laid_unicode_utf8_acceptRanges = Lib.acceptData by kernel_rfl) ▸ Lib.laidMet.reads hL (.head _))
  exact h
theorem packBack_tabs {W : World} (hL : laidMetH Tryd.prog Rows.packBackRow.laid W) : Tabs W := by
  have h := Go.Proofs.utf8Tabs_of_reads Tryd.lays260 ⟨by kernel_rfl, by kernel_rfl, by kernel_rfl, by kernel_rfl, by kernel_rfl, by kernel_rfl, by kernel_rfl⟩
    (w := W) (Pinned.utf8First_eq ▸ Lib.laidMet.reads hL (.tail _ (.head _))) ((show Rows.laid_unicode_utf8_acceptRanges = Lib.acceptData by kernel_rfl) ▸ Lib.laidMet.reads hL (.head _))
  exact h
end Go.Proofs.YtmpaaedccodjaaaDoor
