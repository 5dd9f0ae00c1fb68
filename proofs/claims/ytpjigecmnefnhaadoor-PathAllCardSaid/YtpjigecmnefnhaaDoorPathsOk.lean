/-
  The contract of typecasekeep.paths. Conditions: Go's two tables of utf8 lie in the world.
-/
import Derived.Test.YtpjigecmnefnhaaDoorPathChk
namespace Go.Proofs.YtpjigecmnefnhaaDoor
open Go.RowKit Gx
set_option maxRecDepth 100000

def YesPost (w : World) (e : Ending) (w' : World) : Prop := e = .returned (.bool true) ∧ Below w.heap.size w w'
def Txt0Post (w : World) (e : Ending) (w' : World) : Prop := e = .returned (.tuple #[.string ⟨#[36]⟩, .int .i64 0]) ∧ Below w.heap.size w w'
set_option maxHeartbeats 1000000 in
theorem text0_any (w : World) : Calls Tryd.prog 22 #[.slice none 0 0] w (fun e w' => e = .returned (.string ⟨#[36]⟩) ∧ w' = w) := by
  go_enter Tryd.func22, Tryd.ntmps22
  go_wp2_with fail
  refine wp_loop_rounds 1 ?_
  rw [rounds_succ]
  go_wp2_with fail
  try go_ret
  exact ⟨rfl, rfl⟩
set_option maxHeartbeats 1000000 in
theorem txt0_any (w : World) (hT : Tabs w) : Calls Tryd.prog 14 #[.slice none 0 0] w (Txt0Post w) := by
  have HC := Lib.hid (chkPath_any none 0 [] w (SR.nil w none 0 (fun _ => rfl) (by decide)) hT)
  simp only [List.length_nil] at HC
  go_enter Tryd.func14, Tryd.ntmps14
  go_wp2_with fail
  (with_reducible refine HC.out.mono ?_)
  rintro e0 w2 ⟨c, rfl, hc, hb2⟩
  obtain rfl : c = 0 := hc.2 ⟨by decide, fun x hx => by simp at hx⟩
  have HB := Lib.hid hb2
  have HX := Lib.hid (text0_any w2)
  clear hb2 hc HC
  go_wp2_with fail
  (with_reducible refine HX.out.mono ?_)
  rintro e0 w3 ⟨rfl, rfl⟩
  go_wp2_with fail
  try go_ret2
  exact ⟨rfl, HB.out⟩
set_option maxHeartbeats 1000000 in
theorem paths_any (w : World) (hT : Tabs w) : Calls Tryd.prog 5 #[] w (YesPost w) := by
  have HC := Lib.hid (txt0_any w hT)
  go_enter Tryd.func5, Tryd.ntmps5
  go_wp2_with fail
  (with_reducible refine HC.out.mono ?_)
  rintro e0 w2 ⟨rfl, hb2⟩
  have HB := Lib.hid hb2
  clear hb2 HC
  go_wp2_with fail
  try go_ret
  exact ⟨rfl, HB.out⟩
end Go.Proofs.YtpjigecmnefnhaaDoor
