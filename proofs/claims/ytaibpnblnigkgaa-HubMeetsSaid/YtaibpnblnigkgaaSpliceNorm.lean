/-
  The statement SpliceNorm's walk: what is normal is so, and does the same. Conditions: the parts lie where the argument says.
-/
import Derived.Test.YtaibpnblnigkgaaSpEq
namespace Go.Proofs.Ytaibpnblnigkgaa
open Go.RowKit Gx

/-- the normal change is as good, and does the same -/
theorem apErr_nf {s : List UInt8} {l : List Part} (h : chk l = 0) : apErr s (nf (ex l)) = apErr s l := by
  unfold apErr
  rw [chk_nf h, h, (same_nf (ex l)).over]
theorem apT_same {s : List UInt8} {l m : List Part} (h : Same (ex l) (ex m)) : apT s l = apT s m := h.app id s
theorem apT_len {s : List UInt8} {l : List Part} (h : apErr s l = 0) : chk l = 0 ∧ U.over (ex l) = s.length ∧ U.makes (ex l) = (apT s l).length := by
  have hc : chk l = 0 := by unfold apErr at h; split at h; assumption; exact h
  have ho : U.over (ex l) = s.length := by
    unfold apErr at h
    rw [if_pos hc] at h
    split at h
    · assumption
    · cases h
  exact ⟨hc, ho, (U.app_length id (ex l) s ho).symm⟩

end Go.Proofs.Ytaibpnblnigkgaa
