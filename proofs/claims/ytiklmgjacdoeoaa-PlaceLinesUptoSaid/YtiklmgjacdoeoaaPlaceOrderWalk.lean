/-
  The walks of typecasekeep.places and typecasekeep.PlaceOrder. Condition: the text has at most 1048576 bytes.
-/
import Derived.Test.YtiklmgjacdoeoaaOf
namespace Go.Proofs.Ytiklmgjacdoeoaa
open Go.RowKit

def TruePost (w : World) (e : Ending) (w' : World) : Prop := e = .returned (.bool true) ∧ Below w.heap.size w w'

set_option maxHeartbeats 400000 in
theorem places_any (w : World) : Calls Try.prog 7 #[] w (TruePost w) := by
  have HS := Lib.hid (starts_any ⟨#[]⟩ w (by decide))
  go_enter Try.func7, Try.ntmps7
  go_wp2_with (go_at_call 14; refine HS.out.mono ?_; rintro e w1 ⟨g, cap, rfl, hg1, hg2, hg3, hg4, hb⟩; clear hg1 hg2 hg3 hg4; have HB := Lib.hid hb; clear hb)
  go_ret
  exact ⟨rfl, HB.out⟩

set_option maxHeartbeats 400000 in
theorem placeOrder_walk (s : ByteArray) (a b : Int) (w : World) (hs : s.size ≤ 1048576) :
    Calls Try.prog 3 #[.string s, .int .i64 a, .int .i64 b] w fun e w' => e = .returned (.bool true) ∧ Below w.heap.size w w' := by
  show Calls _ _ _ _ (TruePost w)
  by_cases ha : a < 0
  · have h1 : decide (a < 0) = true := by simpa using ha
    go_enter Try.func3, Try.ntmps3
    go_wp2_with (go_at_call 7; refine (places_any _).mono ?_; rintro e w1 ⟨rfl, hb⟩; have HB := Lib.hid hb; clear hb)
    go_ret
    exact ⟨rfl, HB.out⟩
  by_cases hab : b ≤ a
  · have h1 : decide (b ≤ a) = true := by simpa using hab
    go_enter Try.func3, Try.ntmps3
    go_wp2_with (go_at_call 7; refine (places_any _).mono ?_; rintro e w1 ⟨rfl, hb⟩; have HB := Lib.hid hb; clear hb)
    go_ret
    exact ⟨rfl, HB.out⟩
  by_cases hbs : (s.size : Int) < b
  · have h1 : decide ((s.size : Int) < b) = true := by simpa using hbs
    go_enter Try.func3, Try.ntmps3
    go_wp2_with (go_at_call 7; refine (places_any _).mono ?_; rintro e w1 ⟨rfl, hb⟩; have HB := Lib.hid hb; clear hb)
    go_ret
    exact ⟨rfl, HB.out⟩
  have HP := Lib.hid (place_order s.data.toList a b (by omega))
  have HA := fun w => Lib.hid (of_in s a w hs (by omega) (by omega))
  have HB := fun w => Lib.hid (of_in s b w hs (by omega) (by omega))
  go_enter Try.func3, Try.ntmps3
  go_wp2_with (go_at_call 7; refine (places_any _).mono ?_; rintro e w1 ⟨rfl, hb⟩; have HB1 := Lib.hid hb; clear hb)
  refine (HA _).out.mono ?_
  rintro e w2 ⟨rfl, hb⟩
  have HB2 := Lib.hid hb; clear hb
  go_wp2_with fail
  refine (HB _).out.mono ?_
  rintro e w3 ⟨rfl, hb⟩
  have HB3 := Lib.hid (HB1.out.trans ((HB2.out.mono HB1.out.size).trans (hb.mono (Nat.le_trans HB1.out.size HB2.out.size))))
  clear hb HB1 HB2
  generalize lineOf s.data.toList a = k at *
  generalize lineOf s.data.toList b = l at *
  generalize colOf s.data.toList a = i at *
  generalize colOf s.data.toList b = j at *
  rcases HP.out with h | ⟨rfl, h⟩
  · clear HP
    have h1 : (k : Int) < (l : Int) := by omega
    go_wp2
    go_ret
    exact ⟨rfl, HB3.out⟩
  · clear HP
    go_wp2
    go_ret
    exact ⟨rfl, HB3.out⟩
end Go.Proofs.Ytiklmgjacdoeoaa
