/-
  Two facts of the text that is empty. No conditions.
-/
import Derived.Test.YtgnonbdkmmkdgaaGreatDoorChainTypedAllPartH
namespace Go.Proofs.YtgnonbdkmmkdgaaGreatDoor
open Go.RowKit Gx
theorem empty_size:(ByteArray.mk #[]).size=0:=rfl
theorem empty_bad:(ByteArray.mk #[]).toList.isEmpty=true:=by rw [ByteArray.toList_eq];rfl
end Go.Proofs.YtgnonbdkmmkdgaaGreatDoor
