/-
  The contract of val.own: what can be said of a value without its parts. Conditions: Go's two tables of utf8 lie in the world.
-/
import Derived.Test.YtpjigecmnefnhaaDoorOwnA
import Derived.Test.YtpjigecmnefnhaaDoorOwnB
import Derived.Test.YtpjigecmnefnhaaDoorOwnC
import Derived.WalkLawsBesides
import Derived.Deep.DeepFit
import Derived.Outline
namespace Go.Proofs.YtpjigecmnefnhaaDoor
open Go.RowKit Gx
set_option maxRecDepth 100000


set_option maxHeartbeats 2000000 in
theorem own_deep (k n f : Int) (s : ByteArray) (ad bd : Option Addr) (nl ne cl ce : Nat) (w : World) (a : Int) (h1 : 20 ≤ a) :
    Calls Tryd.prog 25 #[.agg #[.int .i64 k, .int .i64 n, .int .u64 f, .string s, .slice ad nl cl, .slice bd ne ce], .int .i64 a] w (OwnPost 5 w) := by
  have t20 : decide (20 ≤ a) = true := decide_eq_true h1
  go_enter Tryd.func25, Tryd.ntmps25
  go_wp2_with fail
  try go_ret
  exact ⟨rfl, (Below.refl _ w).alloc (Nat.le_refl _) _⟩
set_option maxHeartbeats 2000000 in
theorem own_out (k n f : Int) (s : ByteArray) (ad bd : Option Addr) (nl ne cl ce : Nat) (w : World) (a : Int) (h0 : 0 ≤ a) (h1 : a < 20) (hf0 : 0 ≤ f) (hf1 : f ≤ 18446744073709551615) (hk : k < 0 ∨ 6 < k) :
    Calls Tryd.prog 25 #[.agg #[.int .i64 k, .int .i64 n, .int .u64 f, .string s, .slice ad nl cl, .slice bd ne ce], .int .i64 a] w (OwnPost (ownE k n f s nl ne) w) := by
  have t20 : decide (20 ≤ a) = false := decide_eq_false (by omega)
  have k1 : (k == 1) = false := by simp; omega
  have k2 : (k == 2) = false := by simp; omega
  rcases hk with hk | hk
  · have u0 : decide (k < 0) = true := decide_eq_true hk
    have e : ownE k n f s nl ne = 10 := by simp [ownE, kindBad, u0, hk]
    go_enter Tryd.func25, Tryd.ntmps25
    go_wp2_with fail
    go_quiet (fail)
    go_wp2_with fail
    try go_ret
    exact ⟨by rw [e]; rfl, ((Below.refl _ w).alloc (Nat.le_refl _) _).trans (Gx.drewN_below _ _ _)⟩
  · have u0 : decide (k < 0) = false := decide_eq_false (by omega)
    have u1 : decide (6 < k) = true := decide_eq_true hk
    have e : ownE k n f s nl ne = 10 := by simp [ownE, kindBad, u0, hk]
    go_enter Tryd.func25, Tryd.ntmps25
    go_wp2_with fail
    go_quiet (fail)
    go_wp2_with fail
    try go_ret
    exact ⟨by rw [e]; rfl, ((Below.refl _ w).alloc (Nat.le_refl _) _).trans (Gx.drewN_below _ _ _)⟩
/-- whatever the kind -/
theorem own_all (k n f : Int) (s : ByteArray) (ad bd : Option Addr) (nl ne cl ce : Nat) (w : World) (a : Int) (h0 : 0 ≤ a) (h1 : a < 20) (hf0 : 0 ≤ f) (hf1 : f ≤ 18446744073709551615) (hl : nl ≤ 1000000000000000) (he : ne ≤ 1000000000000000) (hs : s.size ≤ 1000000000000000) (hT : Tabs w) :
    Calls Tryd.prog 25 #[.agg #[.int .i64 k, .int .i64 n, .int .u64 f, .string s, .slice ad nl cl, .slice bd ne ce], .int .i64 a] w (OwnPost (ownE k n f s nl ne) w) := by
  by_cases hk : k < 0 ∨ 6 < k
  · exact own_out k n f s ad bd nl ne cl ce w a h0 h1 hf0 hf1 hk
  have : k = 0 ∨ k = 1 ∨ k = 2 ∨ k = 3 ∨ k = 4 ∨ k = 5 ∨ k = 6 := by omega
  rcases this with rfl | rfl | rfl | rfl | rfl | rfl | rfl
  · exact own_0 n f s ad bd nl ne cl ce w a h0 h1 hf0 hf1 hl he hs hT
  · exact own_1 n f s ad bd nl ne cl ce w a h0 h1 hf0 hf1 hl he hs hT
  · exact own_2 n f s ad bd nl ne cl ce w a h0 h1 hf0 hf1 hl he hs hT
  · exact own_3 n f s ad bd nl ne cl ce w a h0 h1 hf0 hf1 hl he hs hT
  · exact own_4 n f s ad bd nl ne cl ce w a h0 h1 hf0 hf1 hl he hs hT
  · exact own_5 n f s ad bd nl ne cl ce w a h0 h1 hf0 hf1 hl he hs hT
  · exact own_6 n f s ad bd nl ne cl ce w a h0 h1 hf0 hf1 hl he hs hT
end Go.Proofs.YtpjigecmnefnhaaDoor
