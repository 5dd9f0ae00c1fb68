/-
  The contract of val.check. Conditions: Go's two tables of utf8 lie in the world.
-/
import Derived.Test.YtpjigecmnefnhaaDoorChkEnv
namespace Go.Proofs.YtpjigecmnefnhaaDoor
open Go.RowKit Go.Shelf Gx
attribute [local go_sem] Oper.semAt_some
set_option maxRecDepth 100000

set_option maxHeartbeats 4000000 in
/-- too deep, or too many -/
theorem check_zero (q : Loc) (a : Int) (m m1 M : Nat) (w : World) (hM : Boxed w M 3 (.int .i64 m)) (hm : m ≤ 2000) (hm1 : m + 1 = m1) (r : Nat) (hd : (2000 < m1 ∧ r = 2) ∨ (m1 ≤ 2000 ∧ a = 20 ∧ r = 5)) :
    Calls Tryd.prog 18 #[q.val, .int .i64 a, .pointer (some ⟨M, 0, none⟩)] w (ChkPost (r, m1) M w) := by
  have HE := Lib.hid (CE.start hM q a)
  unfold Loc.val
  refine callsIn_wide.1 (callsIn_of_wp_marks (n := 9) Tryd.func18 rfl trivial ?_)
  simp only [Tryd.ntmps18, List.size_toArray, List.length_cons, List.length_nil, Nat.reduceAdd, Nat.reduceSub, Array.replicate_succ, Array.replicate_zero, List.push_toArray, List.append_toArray, List.nil_append, List.cons_append]
  refine wpIn_wide.2 ?_
  clear hM
  have HM1 := Lib.hid hm1
  clear hm1
  go_upto_region 1 with fail
  generalize hw4 : World.alloc _ _ = w4 at HE ⊢
  clear hw4
  obtain ⟨ca, cp, cr, cm, fm, fr, lm, lr⟩ := HE.out.cells
  go_upto_region 2 with fail
  have HE5 := Lib.hid HE.out.up
  generalize hw5 : World.setCell _ _ _ = w5 at HE5 ⊢
  clear hw5 HE ca cp cr cm fm fr lm lr
  rw [HM1.out] at HE5
  obtain ⟨ca, cp, cr, cm, fm, fr, lm, lr⟩ := HE5.out.cells
  obtain ⟨c0, c1, c2, c3, c4, c5⟩ := HE5.out.vc
  have hm2 : m1 ≤ 2001 := by have := HM1.out; omega
  clear hm
  rcases hd with ⟨hlg, rfl⟩ | ⟨hlg, rfl, rfl⟩
  · have t1 : decide ((2000 : Int) < (m1 : Int)) = true := decide_eq_true (by omega)
    clear hlg c0 c1 c2 c3 c4 c5
    go_wp2_with fail
    exact ⟨_, by simp [results, Tryd.results18, go_sem, (HE5.out.res 2).cells.2.2.1], rfl, (HE5.out.res 2).m, (HE5.out.res 2).g⟩
  · have t1 : decide ((2000 : Int) < (m1 : Int)) = false := decide_eq_false (by omega)
    clear hlg
    go_wp2_with fail
    refine (own_deep q.v.k q.v.n q.v.f q.v.s q.ad q.bd q.v.l.length q.v.e.length q.cap q.dap _ 20 (by decide)).mono ?_
    rintro e w6 ⟨rfl, hb6⟩
    have HE6 := Lib.hid (HE5.out.below hb6)
    clear HE5 hb6 ca cp cr cm fm fr lm lr c0 c1 c2 c3 c4 c5
    obtain ⟨ca, cp, cr, cm, fm, fr, lm, lr⟩ := HE6.out.cells
    rw [show ((5 : Nat) : Int) = 5 from rfl]
    go_wp2_with fail
    exact ⟨_, by simp [results, Tryd.results18, go_sem, (HE6.out.res 5).cells.2.2.1], rfl, (HE6.out.res 5).m, (HE6.out.res 5).g⟩
end Go.Proofs.YtpjigecmnefnhaaDoor
