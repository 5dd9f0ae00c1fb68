/-
  The contracts of place.Of, of the closure that it hands to sort.Search, and of sort.Search at that closure. Condition: the text has at most 1048576 bytes.
-/
import Derived.Test.YtiklmgjacdoeoaaStarts
namespace Go.Proofs.Ytiklmgjacdoeoaa
open Go.RowKit

/-- what the closure in place.Of asks: is line's start i behind the place? -/
def OfFnPost (r : Bool) (w : World) (e : Ending) (w' : World) : Prop := e = .returned (.bool r) ∧ ∃ n, w' = w.drewN n

set_option maxHeartbeats 400000 in
theorem offn_any (bl ba g cap n : Nat) (i x at_ : Int) (w : World) (h0 : 0 ≤ i) (hi : i < n)
    (hl : w.cell? ⟨bl, 0, none⟩ = some (.slice (some ⟨g, 0, none⟩) n cap)) (ha : w.cell? ⟨ba, 0, none⟩ = some (.int .i64 at_))
    (hx : w.cell? ⟨g, i.toNat, none⟩ = some (.int .i64 x)) :
    Calls Try.prog 19 #[.int .i64 i, .pointer (some ⟨bl, 0, none⟩), .pointer (some ⟨ba, 0, none⟩)] w (OfFnPost (decide (at_ < x)) w) := by
  go_enter Try.func19, Try.ntmps19
  go_wp2
  go_quiet (fail)
  go_wp2
  go_ret
  exact ⟨rfl, _, rfl⟩

/-- of a row of numbers the first behind a place -/
def SearchPost (xs : List Int) (at_ : Int) (w : World) (e : Ending) (w' : World) : Prop :=
  ∃ r : Nat, e = .returned (.int .i64 r) ∧ r ≤ xs.length ∧ (∀ i, i < r → xs.getD i 0 ≤ at_) ∧ (∀ i, r ≤ i → i < xs.length → at_ < xs.getD i 0) ∧ ∃ n, w' = w.drewN n

def Sorted (xs : List Int) : Prop := ∀ i j, i ≤ j → j < xs.length → xs.getD i 0 ≤ xs.getD j 0

set_option maxHeartbeats 400000 in
theorem search_any (bl ba g cap : Nat) (xs : List Int) (at_ : Int) (w : World) (hlen : xs.length ≤ 1048577) (hs : Sorted xs)
    (hl : w.cell? ⟨bl, 0, none⟩ = some (.slice (some ⟨g, 0, none⟩) xs.length cap)) (ha : w.cell? ⟨ba, 0, none⟩ = some (.int .i64 at_))
    (hx : ∀ i, i < xs.length → w.cell? ⟨g, i, none⟩ = some (.int .i64 (xs.getD i 0))) :
    Calls Try.prog 18 #[.int .i64 xs.length, .func (.func 19) #[] #[.pointer (some ⟨bl, 0, none⟩), .pointer (some ⟨ba, 0, none⟩)]] w (SearchPost xs at_ w) := by
  have HS := Lib.hid hs
  have HX := Lib.hid hx
  have HL := Lib.hid hl
  have HA := Lib.hid ha
  clear hs hx hl ha
  go_enter Try.func18, Try.ntmps18
  go_wp2
  go_loopw [5, 6] (fun i j wr => ∃ a b : Nat, a ≤ b ∧ b ≤ xs.length ∧ i = .int .i64 a ∧ j = .int .i64 b ∧ Hid (∀ t, t < a → xs.getD t 0 ≤ at_) ∧ Hid (∀ t, b ≤ t → t < xs.length → at_ < xs.getD t 0) ∧ Hid (∃ n, wr = w.drewN n))
    (fun i j _ => (intOf j).toNat - (intOf i).toNat)
  case atStart => exact ⟨0, xs.length, Nat.zero_le _, Nat.le_refl _, rfl, rfl, fun t h => absurd h (by omega), fun t h1 h2 => absurd h1 (by omega), 0, rfl⟩
  case round =>
    obtain ⟨a, b, hab, hb, rfl, rfl, h1, h2, hw⟩ := hrel
    by_cases hlt : a < b
    · have hm : (((a : Int) + (b : Int)) / 2).toNat = (a + b) / 2 := by omega
      have HM := Lib.hid hm
      have hm1 : a ≤ (a + b) / 2 ∧ (a + b) / 2 < b := by omega
      have hc1 : wr.cell? ⟨bl, 0, none⟩ = some (.slice (some ⟨g, 0, none⟩) xs.length cap) := by obtain ⟨n, e⟩ := hw.out; rw [e, World.cell?_drewN]; exact HL.out
      have hc2 : wr.cell? ⟨ba, 0, none⟩ = some (.int .i64 at_) := by obtain ⟨n, e⟩ := hw.out; rw [e, World.cell?_drewN]; exact HA.out
      have hc3 : wr.cell? ⟨g, (((a : Int) + (b : Int)) / 2).toNat, none⟩ = some (.int .i64 (xs.getD ((a + b) / 2) 0)) := by obtain ⟨n, e⟩ := hw.out; rw [e, World.cell?_drewN, hm]; exact HX.out _ (by omega)
      have hcall := offn_any bl ba g cap xs.length (((a : Int) + (b : Int)) / 2) (xs.getD ((a + b) / 2) 0) at_ wr (by omega) (by omega) hc1 hc2 hc3
      clear hm hc1 hc2 hc3
      have HCALL := Lib.hid hcall; clear hcall
      obtain ⟨y, hy⟩ : ∃ y, y = xs.getD ((a + b) / 2) 0 := ⟨_, rfl⟩
      rw [← hy] at HCALL
      have HY := Lib.hid hy; clear hy
      by_cases hgt : at_ < y
      · have hd : decide (at_ < y) = true := by simpa using hgt
        rw [hd] at HCALL; clear hd
        go_wp2_with (go_at_call 19; refine HCALL.out.mono ?_; rintro e w' ⟨rfl, hq⟩)
        go_roundw
        case rel =>
          refine ⟨a, (a + b) / 2, by omega, by omega, rfl, ?_, h1, ?_, ?_⟩
          · show Value.int .i64 (((a : Int) + (b : Int)) / 2) = _
            congr 1 <;> omega
          · intro t ht1 ht2
            have hs2 := HS.out ((a + b) / 2) t ht1 ht2
            rw [← HY.out] at hs2; omega
          · obtain ⟨n, e⟩ := hw.out; obtain ⟨n2, e2⟩ := hq
            exact ⟨n + n2, by rw [e2, e, World.drewN_drewN]⟩
        case measure => simp [intOf]; omega
      · have hd : decide (at_ < y) = false := by simpa using hgt
        rw [hd] at HCALL; clear hd
        go_wp2_with (go_at_call 19; refine HCALL.out.mono ?_; rintro e w' ⟨rfl, hq⟩)
        go_roundw
        case rel =>
          refine ⟨(a + b) / 2 + 1, b, by omega, by omega, ?_, rfl, ?_, h2, ?_⟩
          · congr 1 <;> omega
          · intro t ht1
            have hs2 := HS.out t ((a + b) / 2) (by omega) (by omega)
            rw [← HY.out] at hs2; omega
          · obtain ⟨n, e⟩ := hw.out; obtain ⟨n2, e2⟩ := hq
            exact ⟨n + n2, by rw [e2, e, World.drewN_drewN]⟩
        case measure => simp [intOf]; omega
    · obtain rfl : a = b := by omega
      go_wp2
      go_ret
      obtain ⟨n, e⟩ := hw.out
      exact ⟨a, rfl, hb, h1, h2, n, e⟩
end Go.Proofs.Ytiklmgjacdoeoaa
