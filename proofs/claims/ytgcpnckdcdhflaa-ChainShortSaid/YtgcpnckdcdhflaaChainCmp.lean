/-
  The contracts of typecasekeep.leads and slices.Compare of ints. Conditions: the links and the numbers lie in the world; at most 100 links.
-/
import Derived.Test.YtgcpnckdcdhflaaChainLeads
namespace Go.Proofs.Ytgcpnckdcdhflaa
open Go.RowKit Gx

/-- what leads says of a list of whatever numbers -/
def leadsB (L : Links) : List Int → Int → Int → Bool
  | [], a, b => decide (a = b)
  | i :: r, a, b => if i < 0 then false else match L[i.toNat]? with
    | none => false
    | some p => if p.1 = a then leadsB L r p.2 b else false

set_option maxRecDepth 4000 in
set_option maxHeartbeats 2000000 in
theorem leads_any (ad : Option Addr) (cap : Nat) (L : Links) (bd : Option Addr) (cb : Nat) (o : List Int) (a b : Int) (w : World) (hL : Lk w ad cap L) (hl : L.length ≤ 100) (hR : Rd .i64 w bd cb o) (ha : (Lit.int .i64 a).wf = true) :
    Calls Try.prog 7 #[.slice ad L.length cap, .slice bd o.length cb, .int .i64 a, .int .i64 b] w fun e w' => e = .returned (.bool (leadsB L o a b)) ∧ w = w' := by
  have H := Lib.hid hL
  have HR := Lib.hid hR
  have hcap := hR.ncap
  have hc63 := hR.cap63
  have hwf := hR.wf
  have HWF := Lib.hid hwf
  clear hL hR hwf
  obtain ⟨N, hN⟩ : ∃ N, N = L.length := ⟨_, rfl⟩
  obtain ⟨M, hM⟩ : ∃ M, M = o.length := ⟨_, rfl⟩
  have HN := Lib.hid hN
  have HM := Lib.hid hM
  rw [← hN] at hl ⊢
  rw [← hM] at hcap ⊢
  clear hN hM
  obtain ⟨RES, hRES⟩ : ∃ r, r = leadsB L o a b := ⟨_, rfl⟩
  rw [← hRES]
  have HRES := Lib.hid hRES
  clear hRES
  go_enter Try.func7, Try.ntmps7
  go_wp2
  go_loopw [2, 10, 13] (fun c _ v wr => ∃ (k : Nat) (cur : Int), k ≤ M ∧ v = .int .i64 k ∧ c = .int .i64 cur ∧ Hid ((Lit.int .i64 cur).wf = true) ∧ Hid (RES = leadsB L (o.drop k) cur b) ∧ w = wr) (fun _ _ v _ => M - (intOf v).toNat)
  case atStart => exact ⟨0, a, Nat.zero_le _, rfl, rfl, ha, by simpa [Hid] using HRES.out, rfl⟩
  case round =>
    obtain ⟨k, cur, hk, rfl, rfl, hwc, hsame, rfl⟩ := hrel
    by_cases hkM : k < M
    · have hko : k < o.length := by have := HM.out; omega
      obtain ⟨bb, bo, rfl, -, hcx⟩ := HR.out.addr (by omega)
      have hc := hcx k hko
      obtain ⟨i, hi⟩ : ∃ i, i = o.getD k 0 := ⟨_, rfl⟩
      rw [← hi] at hc
      have hdrop : o.drop k = i :: o.drop (k + 1) := by
        rw [List.drop_eq_getElem_cons hko, hi]
        simp [List.getD, List.getElem?_eq_getElem hko]
      have hs := hsame.out
      rw [hdrop] at hs
      unfold leadsB at hs
      have hwi : -9223372036854775808 ≤ i ∧ i ≤ 9223372036854775807 := by
        have := HWF.out i (by rw [hi]; simp [List.getD, List.getElem?_eq_getElem hko])
        simpa [Lit.wf, IntKind.min, IntKind.max, IntKind.signed, IntKind.bits] using this
      clear hcx hi hdrop hsame hko
      have hi1 : (0 : Int) ≤ (k : Int) := by omega
      have hi2 : (k : Int) < (M : Int) := by omega
      by_cases hneg : i < 0
      · rw [if_pos hneg] at hs
        subst hs
        go_wp2
        go_ret
        exact ⟨rfl, rfl⟩
      · rw [if_neg hneg] at hs
        obtain ⟨j, rfl⟩ : ∃ j : Nat, i = (j : Int) := ⟨i.toNat, by omega⟩
        rw [Int.toNat_natCast] at hs
        by_cases hjN : j < N
        · have hjL : j < L.length := by have := HN.out; omega
          obtain ⟨lb, lo, rfl, -, hcells⟩ := H.out.addr (by omega)
          obtain ⟨c0, c1, -⟩ := hcells j L[j] (List.getElem?_eq_getElem hjL)
          have hwf := H.out.wf L[j] (List.getElem_mem hjL)
          rw [List.getElem?_eq_getElem hjL] at hs
          simp only at hs
          obtain ⟨x, hx⟩ : ∃ x, x = (L[j]).1 := ⟨_, rfl⟩
          obtain ⟨y, hy⟩ : ∃ y, y = (L[j]).2 := ⟨_, rfl⟩
          rw [← hx, ← hy] at hs hwf
          rw [← hx] at c0
          rw [← hy] at c1
          clear hcells hx hy hjL
          have hi3 : (0 : Int) ≤ (j : Int) := by omega
          have hi4 : (j : Int) < (N : Int) := by omega
          by_cases hxc : x = cur
          · subst hxc
            rw [if_pos rfl] at hs
            have HS := Lib.hid hs
            have HWY := Lib.hid hwf.2
            clear hs hwf
            go_wp2
            go_roundw
            case rel => exact ⟨k + 1, y, by omega, by go_num, rfl, HWY, HS, by trivial⟩
            case measure => simp [intOf]; omega
          · rw [if_neg hxc] at hs
            have hxb : (x != cur) = true := by simpa using hxc
            subst hs
            go_wp2
            go_ret
            exact ⟨rfl, rfl⟩
        · rw [List.getElem?_eq_none (by have := HN.out; omega)] at hs
          simp only at hs
          subst hs
          have hi3 : (N : Int) ≤ (j : Int) := by omega
          go_wp2
          go_ret
          exact ⟨rfl, rfl⟩
    · obtain rfl : k = M := by omega
      have hs := hsame.out
      rw [List.drop_eq_nil_of_le (by have := HM.out; omega)] at hs
      unfold leadsB at hs
      have HS := Lib.hid hs
      clear hs hsame
      go_wp2
      go_ret
      exact ⟨by rw [HS.out]; rfl, rfl⟩

/-- slices.Compare of lists of numbers -/
def cmpInt : List Int → List Int → Int
  | [], [] => 0
  | [], _ :: _ => -1
  | _ :: _, [] => 1
  | a :: r, b :: s => if a < b then -1 else if b < a then 1 else cmpInt r s

set_option maxRecDepth 4000 in
set_option maxHeartbeats 2000000 in
theorem compare_any (ad bd : Option Addr) (ca cb : Nat) (x y : List Int) (w : World) (hX : Rd .i64 w ad ca x) (hY : Rd .i64 w bd cb y) :
    Calls Try.prog 8 #[.slice ad x.length ca, .slice bd y.length cb] w fun e w' => e = .returned (.int .i64 (cmpInt x y)) ∧ w = w' := by
  have HX := Lib.hid hX
  have HY := Lib.hid hY
  have hc1 := hX.ncap
  have hc2 := hX.cap63
  have hc3 := hY.ncap
  have hc4 := hY.cap63
  clear hX hY
  obtain ⟨N, hN⟩ : ∃ N, N = x.length := ⟨_, rfl⟩
  obtain ⟨M, hM⟩ : ∃ M, M = y.length := ⟨_, rfl⟩
  have HN := Lib.hid hN
  have HM := Lib.hid hM
  rw [← hN] at hc1 ⊢
  rw [← hM] at hc3 ⊢
  clear hN hM
  obtain ⟨RES, hRES⟩ : ∃ r, r = cmpInt x y := ⟨_, rfl⟩
  rw [← hRES]
  have HRES := Lib.hid hRES
  clear hRES
  go_enter Try.func8, Try.ntmps8
  go_wp2
  go_loopw [5, 6, 7, 8, 11] (fun _ _ _ _ v wr => ∃ k : Nat, k ≤ N ∧ k ≤ M ∧ v = .int .i64 k ∧ Hid (RES = cmpInt (x.drop k) (y.drop k)) ∧ w = wr) (fun _ _ _ _ v _ => N - (intOf v).toNat)
  case atStart => exact ⟨0, Nat.zero_le _, Nat.zero_le _, rfl, by simpa [Hid] using HRES.out, rfl⟩
  case round =>
    obtain ⟨k, hk, hk2, rfl, hsame, rfl⟩ := hrel
    by_cases hkN : k < N
    · have hkx : k < x.length := by have := HN.out; omega
      obtain ⟨bb, bo, rfl, -, hcx⟩ := HX.out.addr (by omega)
      have hc := hcx k hkx
      obtain ⟨i, hi⟩ : ∃ i, i = x.getD k 0 := ⟨_, rfl⟩
      rw [← hi] at hc
      have hdrop : x.drop k = i :: x.drop (k + 1) := by
        rw [List.drop_eq_getElem_cons hkx, hi]
        simp [List.getD, List.getElem?_eq_getElem hkx]
      have hs := hsame.out
      rw [hdrop] at hs
      clear hcx hi hdrop hsame hkx
      have hi1 : (0 : Int) ≤ (k : Int) := by omega
      have hi2 : (k : Int) < (N : Int) := by omega
      by_cases hkM : k < M
      · have hky : k < y.length := by have := HM.out; omega
        obtain ⟨cb', co, rfl, -, hcy⟩ := HY.out.addr (by omega)
        have hd := hcy k hky
        obtain ⟨j, hj⟩ : ∃ j, j = y.getD k 0 := ⟨_, rfl⟩
        rw [← hj] at hd
        have hdrop : y.drop k = j :: y.drop (k + 1) := by
          rw [List.drop_eq_getElem_cons hky, hj]
          simp [List.getD, List.getElem?_eq_getElem hky]
        rw [hdrop] at hs
        unfold cmpInt at hs
        clear hcy hj hdrop hky
        have hi3 : (k : Int) < (M : Int) := by omega
        have e1 : (i == i) = true := by simp
        have e2 : (j == j) = true := by simp
        by_cases hlt : i < j
        · rw [if_pos hlt] at hs
          subst hs
          go_wp2
          go_ret
          exact ⟨rfl, rfl⟩
        · rw [if_neg hlt] at hs
          by_cases hgt : j < i
          · rw [if_pos hgt] at hs
            subst hs
            go_wp2
            go_ret
            exact ⟨rfl, rfl⟩
          · rw [if_neg hgt] at hs
            have HS := Lib.hid hs
            clear hs
            go_wp2
            go_roundw
            case rel => exact ⟨k + 1, by omega, by omega, by go_num, HS, by trivial⟩
            case measure => simp [intOf]; omega
      · obtain rfl : k = M := by omega
        rw [show y.drop k = [] from List.drop_eq_nil_of_le (by have := HM.out; omega)] at hs
        unfold cmpInt at hs
        subst hs
        go_wp2
        go_ret
        exact ⟨rfl, rfl⟩
    · obtain rfl : k = N := by omega
      have hs := hsame.out
      rw [show x.drop k = [] from List.drop_eq_nil_of_le (by have := HN.out; omega)] at hs
      clear hsame
      by_cases hkM : k < M
      · have hky : k < y.length := by have := HM.out; omega
        rw [List.drop_eq_getElem_cons hky] at hs
        unfold cmpInt at hs
        subst hs
        clear hky
        have hi3 : (k : Int) < (M : Int) := by omega
        go_wp2
        go_ret
        exact ⟨rfl, rfl⟩
      · obtain rfl : k = M := by omega
        rw [show y.drop k = [] from List.drop_eq_nil_of_le (by have := HM.out; omega)] at hs
        unfold cmpInt at hs
        subst hs
        go_wp2
        go_ret
        exact ⟨rfl, rfl⟩
end Go.Proofs.Ytgcpnckdcdhflaa
