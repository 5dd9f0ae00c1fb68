/-
  The contracts of typecasekeep.leads, slices.Compare of ints, the closure of chain.Plan and slices.IndexFunc over it. Conditions: the links and the numbers lie in the world; at most 2^48 of them.
-/
import Derived.Test.YtgcpnckdcdhflaaFarMap
import Derived.Test.YtgcpnckdcdhflaaRd
namespace Go.Proofs.Ytgcpnckdcdhflaa
open Go.RowKit Gx

/-- does this link go on from the version at which we are? -/
def goes (f : Int → Option Nat) (cur : Int) (p : Int × Int) : Bool := decide (p.1 = cur) && (f p.2).isSome && decide ((((f p.2).getD 0 : Nat) : Int) = (((f cur).getD 0 : Nat) : Int) - 1)

set_option maxHeartbeats 1000000 in
/-- the closure: does this link go on from the version at which we are? -/
theorem planClosure_any (x y : Int) (mv : Value) (B A at_ : Nat) (f : Int → Option Nat) (n : Nat) (cur : Int) (w : World) (hmv : mv.oneCell' = true) (hf : FarMap w B f n) (hx : (Lit.int .i64 x).wf = true) (hy : (Lit.int .i64 y).wf = true) (hc : (Lit.int .i64 cur).wf = true)
    (hbnd : ∀ x d, f x = some d → d ≤ 1000) (hA : w.cell? ⟨A, 0, none⟩ = some (.map (some B))) (hat : w.cell? ⟨at_, 0, none⟩ = some (.int .i64 cur)) :
    Calls Try.prog 10 #[.agg #[.int .i64 x, .int .i64 y, mv], .pointer (some ⟨A, 0, none⟩), .pointer (some ⟨at_, 0, none⟩)] w fun e w' =>
      e = .returned (.bool (goes f cur (x, y))) ∧ Below w.heap.size w w' := by
  have hltA := World.block_lt_of_cell? w _ hA
  have hltat := World.block_lt_of_cell? w _ hat
  by_cases hxc : x = cur
  · subst hxc
    have l1 := (hf.alloc (.cells #[.int .i64 x, .int .i64 y, mv] 34)).look_ok y hy
    have l2 := ((hf.alloc (.cells #[.int .i64 x, .int .i64 y, mv] 34))).look x hc
    cases hfy : f y with
    | none =>
      rw [hfy] at l1
      simp only [Option.isSome_none, Option.getD_none] at l1
      have L1 := Lib.hid l1
      go_enter Try.func10, Try.ntmps10
      go_wp2
      go_ret
      exact ⟨by simp [goes, hfy], (Below.refl _ _).alloc (Nat.le_refl _) _⟩
    | some d =>
      rw [hfy] at l1
      simp only [Option.isSome_some, Option.getD_some] at l1
      have hb1 : d ≤ 1000 := hbnd y d hfy
      have hb2 : (f x).getD 0 ≤ 1000 := by
        cases h : f x with
        | none => simp
        | some e => exact hbnd x e h
      obtain ⟨e, he⟩ : ∃ e, e = (f x).getD 0 := ⟨_, rfl⟩
      rw [← he] at l2 hb2
      clear hf hbnd
      have HE := Lib.hid he
      have HFY := Lib.hid hfy
      clear he hfy
      go_enter Try.func10, Try.ntmps10
      go_wp2
      go_ret
      exact ⟨by simp [goes, HFY.out, ← HE.out]; rfl, (Below.refl _ _).alloc (Nat.le_refl _) _⟩
  · have l1 := (hf.alloc (.cells #[.int .i64 x, .int .i64 y, mv] 34)).look_ok y hy
    go_enter Try.func10, Try.ntmps10
    go_wp2
    go_ret
    exact ⟨by simp [goes, hxc], (Below.refl _ _).alloc (Nat.le_refl _) _⟩

set_option maxRecDepth 4000 in
set_option maxHeartbeats 2000000 in
theorem indexFunc_any (ad : Option Addr) (cap : Nat) (L : Links) (B A at_ : Nat) (f : Int → Option Nat) (n : Nat) (cur : Int) (i : Nat) (w : World) (hL : Lk w ad cap L) (hl : L.length ≤ 100) (hf : FarMap w B f n) (hc : (Lit.int .i64 cur).wf = true)
    (hbnd : ∀ x d, f x = some d → d ≤ 1000) (hA : w.cell? ⟨A, 0, none⟩ = some (.map (some B))) (hat : w.cell? ⟨at_, 0, none⟩ = some (.int .i64 cur)) (hi : i < L.length)
    (hgi : goes f cur (L[i]) = true) (hlt : ∀ j (h : j < i), goes f cur (L[j]'(by omega)) = false) :
    Calls Try.prog 9 #[.slice ad L.length cap, .func (.func 10) #[] #[.pointer (some ⟨A, 0, none⟩), .pointer (some ⟨at_, 0, none⟩)]] w fun e w' =>
      e = .returned (.int .i64 (i : Int)) ∧ Below w.heap.size w w' := by
  have hltA := World.block_lt_of_cell? w _ hA
  have hltat := World.block_lt_of_cell? w _ hat
  have H := Lib.hid hL
  have HF := Lib.hid hf
  have HG := Lib.hid hgi
  have HLT := Lib.hid hlt
  have HB := Lib.hid hbnd
  have HA := Lib.hid hA
  have HAT := Lib.hid hat
  clear hL hf hgi hlt hbnd hA hat
  obtain ⟨N, hN⟩ : ∃ N, N = L.length := ⟨_, rfl⟩
  have HN := Lib.hid hN
  rw [← hN] at hl hi ⊢
  clear hN
  go_enter Try.func9, Try.ntmps9
  go_wp2
  go_loopw [5, 8] (fun _ v wr => ∃ k : Nat, k ≤ i ∧ v = .int .i64 k ∧ Below w.heap.size w wr) (fun _ v _ => N - (intOf v).toNat)
  case atStart => exact ⟨0, Nat.zero_le _, rfl, Below.refl _ _⟩
  case round =>
    obtain ⟨k, hk, rfl, hb⟩ := hrel
    have hsz := hb.size
    have hkN : k < L.length := by have := HN.out; omega
    obtain ⟨b, off, rfl, hbl, hcells⟩ := (H.out.keep hb).addr (by omega)
    obtain ⟨c0, c1, m1, m2, m3, c2⟩ := hcells k L[k] (List.getElem?_eq_getElem hkN)
    have hwf := H.out.wf L[k] (List.getElem_mem hkN)
    have hcall := planClosure_any (L[k]).1 (L[k]).2 (.slice m1 m2 m3) B A at_ f n cur wr rfl (HF.out.keep hb) hwf.1 hwf.2 hc HB.out ((hb.cell (p := ⟨A, 0, none⟩) hltA).trans HA.out) ((hb.cell (p := ⟨at_, 0, none⟩) hltat).trans HAT.out)
    have hfin : k = i → goes f cur ((L[k]).1, (L[k]).2) = true := by intro e; subst e; exact HG.out
    have hgo : k < i → goes f cur ((L[k]).1, (L[k]).2) = false := by intro e; exact HLT.out k e
    clear hcells hbl
    obtain ⟨x, hx⟩ : ∃ x, x = (L[k]).1 := ⟨_, rfl⟩
    obtain ⟨y, hy⟩ : ∃ y, y = (L[k]).2 := ⟨_, rfl⟩
    rw [← hx, ← hy] at hfin hgo hcall
    rw [← hx] at c0
    rw [← hy] at c1
    clear hx hy hwf hkN
    have HC := Lib.hid hcall
    clear hcall
    have hi1 : (0 : Int) ≤ (k : Int) := by omega
    have hi2 : (k : Int) < (N : Int) := by omega
    by_cases hki : k = i
    · have hg := hfin hki
      rw [hg] at HC
      subst hki
      clear hfin hgo hg
      go_wp2_with fail
      refine HC.out.mono ?_
      rintro e w2 ⟨rfl, hb2⟩
      go_wp2
      go_ret
      exact ⟨rfl, hb.trans (hb2.mono hsz)⟩
    · have hg := hgo (by omega)
      rw [hg] at HC
      clear hfin hgo hg
      go_wp2_with fail
      refine HC.out.mono ?_
      rintro e w2 ⟨rfl, hb2⟩
      go_wp2
      go_roundw
      case rel => exact ⟨k + 1, by omega, by go_num, hb.trans (hb2.mono hsz)⟩
      case measure => simp [intOf]; omega
end Go.Proofs.Ytgcpnckdcdhflaa
