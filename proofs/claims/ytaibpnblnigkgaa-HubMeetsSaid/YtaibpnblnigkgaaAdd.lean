/-
  The contracts of the builder's add and done. Conditions: the builder lies in memory of the call's own.
-/
import Derived.Test.YtaibpnblnigkgaaAddPut
import Derived.Test.YtaibpnblnigkgaaAddCut
import Derived.Test.YtaibpnblnigkgaaAddNone
import Derived.Test.YtaibpnblnigkgaaAddNil
import Derived.Test.YtaibpnblnigkgaaAddMore
import Derived.Test.YtaibpnblnigkgaaAddPush
namespace Go.Proofs.Ytaibpnblnigkgaa
open Go.RowKit Gx

theorem add_any (w : World) (base : Nat) (F : Nat → Prop) (g : Nat) (st : Bst) (v : Value) (q : Part) (h : Bd w base F g st v) (hb : base ≤ w.heap.size) (hq : okP q) (hs : Small st q) :
    Calls Try.prog 35 #[.pointer (some ⟨g, 0, none⟩), partVal q] w (BdPost w base F g (addS st q)) := by
  rcases hq.1 with h1 | h1 | h1
  · by_cases hn : q.2.1 = 0
    · exact add_none w base F g st v q h hb hq hs h1 hn
    · rcases List.eq_nil_or_concat (flushS st).1 with hL | ⟨M, z, hL⟩
      · exact add_nil w base F g st v q h hb hq hs h1 hn hL
      · rw [List.concat_eq_append] at hL
        by_cases hz : z.1 = 1
        · exact add_more w base F g st v q h hb hq hs h1 hn M z hL hz
        · exact add_push w base F g st v q h hb hq hs h1 hn M z hL hz
  · exact add_cut w base F g st v q h hb hq hs h1
  · exact add_put w base F g st v q h hb hq hs h1
end Go.Proofs.Ytaibpnblnigkgaa
