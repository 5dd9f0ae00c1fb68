/-
  The walk of typecasekeep.ChainShort. Conditions: the links and the numbers lie in the world.
-/
import Derived.Test.YtgcpnckdcdhflaaChainRound
namespace Go.Proofs.Ytgcpnckdcdhflaa
open Go.RowKit Gx

theorem leadsB_leads {L : Links} : ∀ {o : List Int} {a b : Int}, leadsB L o a b = true → ∃ s : List Nat, o = s.map Int.ofNat ∧ Leads L s a b
  | [], a, b, h => by
    unfold leadsB at h
    have h2 : a = b := of_decide_eq_true h
    exact ⟨[], rfl, h2⟩
  | i :: r, a, b, h => by
    unfold leadsB at h
    split at h
    · cases h
    · rename_i h0
      split at h
      · cases h
      · rename_i p hp
        split at h
        · rename_i hpa
          obtain ⟨s, rfl, hs⟩ := leadsB_leads h
          exact ⟨i.toNat :: s, by rw [List.map_cons]; congr 1; exact (Int.toNat_of_nonneg (by omega)).symm, p, hp, hpa, hs⟩
        · cases h

theorem leads_leadsB {L : Links} : ∀ {s : List Nat} {a b : Int}, Leads L s a b → leadsB L (s.map Int.ofNat) a b = true
  | [], a, b, h => by
    unfold Leads at h
    rw [List.map_nil]
    unfold leadsB
    exact decide_eq_true h
  | i :: r, a, b, ⟨p, h1, h2, h3⟩ => by
    rw [List.map_cons]
    unfold leadsB
    rw [if_neg (by simp), show (Int.ofNat i).toNat = i by simp, h1]
    simp only
    rw [if_pos h2]
    exact leads_leadsB h3

theorem cmpInt_cast : ∀ x y : List Nat, cmpInt (x.map Int.ofNat) (y.map Int.ofNat) = cmpNat x y
  | [], [] => rfl
  | [], _ :: _ => rfl
  | _ :: _, [] => rfl
  | a :: r, b :: s => by
    rw [List.map_cons, List.map_cons]
    unfold cmpInt cmpNat
    have e1 : (Int.ofNat a < Int.ofNat b) = (a < b) := by simp
    have e2 : (Int.ofNat b < Int.ofNat a) = (b < a) := by simp
    rw [cmpInt_cast r s]
    simp only [e1, e2]

/-- what the way that was found is, beside another one -/
theorem way_best {L : Links} {a b : Int} {f : Int → Option Nat} {o : List Nat} (D : Dist L b f) (W : Way L f o a b) {other : List Int} (h : leadsB L other a b = true) :
    o.length < other.length ∨ (o.length = other.length ∧ cmpInt (o.map Int.ofNat) other ≤ 0) := by
  obtain ⟨s, rfl, hs⟩ := leadsB_leads h
  have h1 := W.len 0 D.d1
  obtain ⟨d, h2, h3⟩ := D.least s a hs
  rw [h1] at h2
  cases h2
  rw [List.length_map, cmpInt_cast]
  by_cases hl : o.length = s.length
  · exact .inr ⟨hl, D.first o s a W hs hl⟩
  · exact .inl (by omega)

theorem way_none {L : Links} {a b : Int} {f : Int → Option Nat} (D : Dist L b f) (hn : f a = none) (other : List Int) : leadsB L other a b = false := by
  cases h : leadsB L other a b with
  | false => rfl
  | true =>
    obtain ⟨s, rfl, hs⟩ := leadsB_leads h
    obtain ⟨d, h2, h3⟩ := D.least s a hs
    rw [hn] at h2; cases h2

set_option maxRecDepth 4000 in
set_option maxHeartbeats 4000000 in
theorem chainShort_walk (ad : Option Addr) (cap : Nat) (L : Links) (a b : Int) (od : Option Addr) (oc : Nat) (other : List Int) (w : World) (hL : Lk w ad cap L) (ha : (Lit.int .i64 a).wf = true) (hb : (Lit.int .i64 b).wf = true) (hR : Rd .i64 w od oc other) :
    Calls Try.prog 4 #[.slice ad L.length cap, .int .i64 a, .int .i64 b, .slice od other.length oc] w (TruePost w) := by
  have hcap := hL.ncap
  have hc63 := hL.cap63
  have hocap := hR.ncap
  have hoc63 := hR.cap63
  by_cases hl : L.length ≤ 100
  · have hp := fun w' (hbw : Below w.heap.size w w') => plan_any ad cap L a b w' (hL.keep hbw) hl ha hb
    have hleads := fun w' (hbw : Below w.heap.size w w') bd cb o (hr : Rd .i64 w' bd cb o) => leads_any ad cap L bd cb o a b w' (hL.keep hbw) hl hr ha
    have HP := Lib.hid hp
    have HLE := Lib.hid hleads
    have HR := Lib.hid hR
    clear hp ha hb hL hleads hR
    obtain ⟨N, hN⟩ : ∃ N, N = L.length := ⟨_, rfl⟩
    obtain ⟨M, hM⟩ : ∃ M, M = other.length := ⟨_, rfl⟩
    have HM := Lib.hid hM
    rw [← hN] at HP HLE hl hcap ⊢
    rw [← hM] at hocap ⊢
    clear hN hM
    go_enter Try.func4, Try.ntmps4
    go_wp2_with fail
    refine (chains_any w).mono ?_
    rintro e w1 ⟨rfl, hb1⟩
    go_wp2_with fail
    refine (HP.out w1 hb1).mono ?_
    rintro e w2 ⟨f, hD, hb, ⟨hn, rfl⟩ | ⟨o, ad', cap', hw, rfl, hr⟩⟩
    · have hb2 : Below w.heap.size w w2 := hb1.trans (hb.mono hb1.size)
      clear hb hb1
      have hcl := HLE.out w2 hb2 od oc other (HR.out.keep hb2)
      rw [way_none hD hn, ← HM.out] at hcl
      have HCL := Lib.hid hcl
      clear hcl hD hn
      go_wp2_with fail
      refine HCL.out.mono ?_
      rintro e w3 ⟨rfl, rfl⟩
      go_wp2
      go_ret
      exact ⟨by simp, hb2⟩
    · have hb2 : Below w.heap.size w w2 := hb1.trans (hb.mono hb1.size)
      clear hb hb1
      have hcl := HLE.out w2 hb2 od oc other (HR.out.keep hb2)
      rw [← HM.out] at hcl
      have hcl2 := HLE.out w2 hb2 ad' cap' (o.map Int.ofNat) hr
      rw [leads_leadsB hw.leads, List.length_map] at hcl2
      have hcmp := compare_any ad' od cap' oc (o.map Int.ofNat) other w2 hr (HR.out.keep hb2)
      rw [← HM.out, List.length_map] at hcmp
      have hbest := fun h => way_best hD hw (other := other) h
      have hrc := hr.ncap
      rw [List.length_map] at hrc
      have hrc2 := hr.cap63
      rw [← HM.out] at hbest
      obtain ⟨n, hn⟩ : ∃ n, n = o.length := ⟨_, rfl⟩
      obtain ⟨c, hc⟩ : ∃ c, c = cmpInt (o.map Int.ofNat) other := ⟨_, rfl⟩
      rw [← hc] at hbest hcmp
      rw [← hn] at hbest hcmp hcl2 hrc ⊢
      clear hn hc hr hw hD
      have HCL := Lib.hid hcl
      have HCL2 := Lib.hid hcl2
      have HCMP := Lib.hid hcmp
      clear hcl hcl2 hcmp
      cases hth : leadsB L other a b with
      | false =>
        rw [hth] at HCL
        clear hbest hth
        go_wp2_with fail
        refine HCL.out.mono ?_
        rintro e w3 ⟨rfl, rfl⟩
        go_wp2_with fail
        refine HCL2.out.mono ?_
        rintro e w4 ⟨rfl, rfl⟩
        go_wp2
        go_ret
        exact ⟨by simp, hb2⟩
      | true =>
        rw [hth] at HCL
        have hbb := hbest hth
        clear hbest hth
        rcases hbb with hlt | ⟨rfl, hle⟩
        · have hlt2 : (n : Int) < (M : Int) := by omega
          go_wp2_with fail
          refine HCL.out.mono ?_
          rintro e w3 ⟨rfl, rfl⟩
          go_wp2_with fail
          refine HCL2.out.mono ?_
          rintro e w4 ⟨rfl, rfl⟩
          go_wp2
          go_ret
          exact ⟨by simp, hb2⟩
        · go_wp2_with fail
          refine HCL.out.mono ?_
          rintro e w3 ⟨rfl, rfl⟩
          go_wp2_with fail
          refine HCL2.out.mono ?_
          rintro e w4 ⟨rfl, rfl⟩
          go_wp2_with fail
          refine HCMP.out.mono ?_
          rintro e w4 ⟨rfl, rfl⟩
          go_wp2
          go_ret
          exact ⟨by simp [hle], hb2⟩
  · have hpl := fun w' => planLarge_any ad cap L a b w' (by omega) (by omega)
    have HPL := Lib.hid hpl
    clear hpl
    obtain ⟨N, hN⟩ : ∃ N, N = L.length := ⟨_, rfl⟩
    rw [← hN] at HPL hl hcap ⊢
    clear hN hL ha hb
    have hl2 : (100 : Int) < (N : Int) := by omega
    go_enter Try.func4, Try.ntmps4
    go_wp2_with fail
    refine (chains_any w).mono ?_
    rintro e w1 ⟨rfl, hb1⟩
    go_wp2_with fail
    refine (HPL.out w1).mono ?_
    rintro e w2 ⟨rfl, rfl⟩
    go_wp2
    go_ret
    exact ⟨by simp, hb1⟩
end Go.Proofs.Ytgcpnckdcdhflaa
