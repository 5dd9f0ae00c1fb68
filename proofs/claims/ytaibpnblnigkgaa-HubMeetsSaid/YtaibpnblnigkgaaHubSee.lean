/-
  The contracts of a hub's there, Main, Seen, Text. Conditions: the hub lies in memory.
-/
import Derived.Test.YtaibpnblnigkgaaHubMem
import Derived.WalkKit
namespace Go.Proofs.Ytaibpnblnigkgaa
open Go.RowKit Gx
set_option maxRecDepth 100000

/-- there is such a client -/
def Hb.In (h : Hb) (n : Int) : Prop := 0 ≤ n ∧ n < h.cls.length
section
variable {B R C cap : Nat} {h : Hb} {w : World}
theorem there_yes (m : HM B R C cap h w) (k : Nat) (hk : k < h.cls.length) : Calls Try.prog 24 #[.pointer (some ⟨R, 0, none⟩), .int .i64 k] w fun e w' => e = .returned (.bool true) ∧ w' = w := by
  obtain ⟨-, -, c2, -⟩ := m.cells
  have t1 : decide ((0 : Int) ≤ (k : Int)) = true := decide_eq_true (by omega)
  have t2 : decide ((k : Int) < (h.cls.length : Int)) = true := decide_eq_true (by omega)
  have t3 : decide (k < h.cls.length) = true := decide_eq_true hk
  clear m hk
  go_enter Try.func24, Try.ntmps24
  go_wp2
  go_ret
  exact ⟨rfl, rfl⟩
theorem there_no (m : HM B R C cap h w) (n : Int) (hn : ¬ h.In n) : Calls Try.prog 24 #[.pointer (some ⟨R, 0, none⟩), .int .i64 n] w fun e w' => e = .returned (.bool false) ∧ w' = w := by
  obtain ⟨-, -, c2, -⟩ := m.cells
  unfold Hb.In at hn
  clear m
  by_cases h0 : 0 ≤ n
  · have t1 : decide ((0 : Int) ≤ n) = true := decide_eq_true h0
    have t2 : decide (n < (h.cls.length : Int)) = false := decide_eq_false (by omega)
    clear hn h0
    go_enter Try.func24, Try.ntmps24
    go_wp2
    go_ret
    exact ⟨rfl, rfl⟩
  · have t1 : decide ((0 : Int) ≤ n) = false := decide_eq_false h0
    clear hn h0
    go_enter Try.func24, Try.ntmps24
    go_wp2
    go_ret
    exact ⟨rfl, rfl⟩
theorem Main_any (m : HM B R C cap h w) : Calls Try.prog 10 #[.pointer (some ⟨R, 0, none⟩)] w fun e w' => e = .returned (.string h.main) ∧ w' = w := by
  obtain ⟨c0, -, -, -⟩ := m.cells
  clear m
  go_enter Try.func10, Try.ntmps10
  go_wp2
  go_ret
  exact ⟨rfl, rfl⟩
theorem Seen_yes (m : HM B R C cap h w) (k : Nat) (c : Cl) (hk : h.cls[k]? = some c) : Calls Try.prog 11 #[.pointer (some ⟨R, 0, none⟩), .int .i64 k] w fun e w' => e = .returned (.int .i64 c.seen) ∧ w' = w := by
  obtain ⟨-, -, c2, -⟩ := m.cells
  obtain ⟨-, d1, -⟩ := m.row.cell hk
  have hlt := (List.getElem?_eq_some_iff.1 hk).1
  have hcap := m.cl
  have H := Lib.hid (there_yes m k hlt)
  have i1 : (0 : Int) ≤ (k : Int) := by omega
  have i2 : (k : Int) < (h.cls.length : Int) := by omega
  clear m hk
  go_enter Try.func11, Try.ntmps11
  go_wp2_with fail
  refine H.out.mono ?_
  rintro e w1 ⟨rfl, rfl⟩
  go_wp2
  go_ret
  exact ⟨rfl, rfl⟩
theorem Seen_no (m : HM B R C cap h w) (n : Int) (hn : ¬ h.In n) : Calls Try.prog 11 #[.pointer (some ⟨R, 0, none⟩), .int .i64 n] w fun e w' => e = .returned (.int .i64 (-1)) ∧ w' = w := by
  have H := Lib.hid (there_no m n hn)
  clear m hn
  go_enter Try.func11, Try.ntmps11
  go_wp2_with fail
  refine H.out.mono ?_
  rintro e w1 ⟨rfl, rfl⟩
  go_wp2
  go_ret
  exact ⟨rfl, rfl⟩
theorem Text_yes (m : HM B R C cap h w) (k : Nat) (c : Cl) (hk : h.cls[k]? = some c) : Calls Try.prog 13 #[.pointer (some ⟨R, 0, none⟩), .int .i64 k] w fun e w' => e = .returned (.tuple #[.string c.text, .int .i64 0]) ∧ w' = w := by
  obtain ⟨-, -, c2, -⟩ := m.cells
  obtain ⟨d0, -⟩ := m.row.cell hk
  have hlt := (List.getElem?_eq_some_iff.1 hk).1
  have hcap := m.cl
  have H := Lib.hid (there_yes m k hlt)
  have i1 : (0 : Int) ≤ (k : Int) := by omega
  have i2 : (k : Int) < (h.cls.length : Int) := by omega
  clear m hk
  go_enter Try.func13, Try.ntmps13
  go_wp2_with fail
  refine H.out.mono ?_
  rintro e w1 ⟨rfl, rfl⟩
  go_wp2
  go_ret2
  exact ⟨rfl, rfl⟩
theorem Text_no (m : HM B R C cap h w) (n : Int) (hn : ¬ h.In n) : Calls Try.prog 13 #[.pointer (some ⟨R, 0, none⟩), .int .i64 n] w fun e w' => e = .returned (.tuple #[.string ⟨#[]⟩, .int .i64 1]) ∧ w' = w := by
  have H := Lib.hid (there_no m n hn)
  clear m hn
  go_enter Try.func13, Try.ntmps13
  go_wp2_with fail
  refine H.out.mono ?_
  rintro e w1 ⟨rfl, rfl⟩
  go_wp2
  go_ret2
  exact ⟨rfl, rfl⟩
end
end Go.Proofs.Ytaibpnblnigkgaa
