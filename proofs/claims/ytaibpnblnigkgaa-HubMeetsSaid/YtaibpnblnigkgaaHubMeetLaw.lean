/-
  Plain law of HubMeets: what three rounds leave. No conditions.
-/
import Derived.Test.YtaibpnblnigkgaaHubActed
namespace Go.Proofs.Ytaibpnblnigkgaa
open Go.RowKit Gx

/-- nothing of this client's is on its way -/
def Cl.done (N : Nat) (x : Cl) : Prop := x.seen = N ∧ x.sent.is = false ∧ x.held.is = false
/-- in round r, before client i -/
def RInv (r i : Nat) (h : Hb) : Prop :=
  (r = 0 → ∀ (k : Nat) (x : Cl), k < i → h.cls[k]? = some x → x.held.is = false) ∧
  (r = 1 → (∀ (k : Nat) (x : Cl), h.cls[k]? = some x → x.held.is = false) ∧ ∀ (k : Nat) (x : Cl), k < i → h.cls[k]? = some x → x.done h.log.length) ∧
  (2 ≤ r → ∀ (k : Nat) (x : Cl), h.cls[k]? = some x → x.done h.log.length)
theorem RInv.zero (h : Hb) : RInv 0 0 h := ⟨fun _ k x hk => by omega, fun h => by omega, fun h => by omega⟩
theorem RInv.next {r n : Nat} {h : Hb} (a : RInv r n h) (hn : h.cls.length = n) : RInv (r + 1) 0 h := by
  have hlt : ∀ (k : Nat) (x : Cl), h.cls[k]? = some x → k < n := fun k x hx => by rw [← hn]; exact (List.getElem?_eq_some_iff.1 hx).1
  refine ⟨fun h => by omega, fun hr => ⟨fun k x hx => a.1 (by omega) k x (hlt k x hx) hx, fun k x hk => by omega⟩, fun hr k x hx => ?_⟩
  by_cases h1 : r = 1
  · exact (a.2.1 h1).2 k x (hlt k x hx) hx
  · exact a.2.2 (by omega) k x hx
theorem recv_sum {h h' : Hb} {i : Nat} {c : Int} (g : Good h) (x : Cl) (hx : h.cls[i]? = some x) (s : RecvStep h i c h') :
    (c ≠ 0 ∧ h' = h ∧ (c = 8 → x.seen = h.log.length)) ∨ (c = 0 ∧ ∃ x' : Cl, h' = { h with cls := h.cls.set i x' } ∧ x'.seen = x.seen + 1 ∧ x'.held.is = x.held.is ∧ x.seen < h.log.length) := by
  by_cases hc : c = 0
  · right
    have hx2 := g.cl x (List.mem_of_getElem? hx)
    by_cases hs : x.seen = h.log.length
    · have := s.nil i x rfl hx hs
      omega
    · obtain ⟨e, he⟩ : ∃ e, h.log[x.seen]? = some e := ⟨_, List.getElem?_eq_getElem (by omega)⟩
      by_cases hw : e.who = (i : Int)
      · obtain ⟨-, rfl⟩ := s.own i x e rfl hx he hw
        exact ⟨hc, _, rfl, rfl, rfl, by omega⟩
      · obtain ⟨hiff, hyes⟩ := s.other i x e rfl hx he hw
        obtain ⟨sent, held, h1, h2, h3, h4, rfl⟩ := hyes hc
        exact ⟨hc, _, rfl, rfl, h2, by omega⟩
  · left
    refine ⟨hc, s.no hc, fun h8 => ?_⟩
    by_cases hs : x.seen = h.log.length
    · exact hs
    · exact absurd h8 (s.ne i x rfl hx hs)
theorem RInv.recv {r i : Nat} {h : Hb} {x x' : Cl} (a : RInv r i h) (hx : h.cls[i]? = some x) (h1 : x'.held.is = x.held.is) (h2 : x.seen < h.log.length) : RInv r i { h with cls := h.cls.set i x' } := by
  have hne : ∀ k y, k < i → (h.cls.set i x')[k]? = some y → h.cls[k]? = some y := fun k y hk hy => by rwa [List.getElem?_set_ne (by omega)] at hy
  refine ⟨fun hr k y hk hy => a.1 hr k y hk (hne k y hk hy), fun hr => ⟨fun k y hy => ?_, fun k y hk hy => (a.2.1 hr).2 k y hk (hne k y hk hy)⟩, fun hr k y hy => ?_⟩
  · change (h.cls.set i x')[k]? = some y at hy
    by_cases hk : k = i
    · subst hk
      rw [get_set hx] at hy
      obtain rfl := Option.some.inj hy
      rw [h1]
      exact (a.2.1 hr).1 k x hx
    · rw [List.getElem?_set_ne (by omega)] at hy
      exact (a.2.1 hr).1 k y hy
  · have := (a.2.2 hr i x hx).1
    omega
theorem RInv.send {r i n : Nat} {d : List UInt8} {h h' : Hb} {c : Int} {x : Cl} (a : RInv r i h) (b : ActI d n h) (hx : h.cls[i]? = some x) (hs : x.seen = h.log.length) (s : SendStep h i c h') (hc : c = 0 ∨ c = 8) : RInv r (i + 1) h' := by
  have hsent : x.sent.is = false := by
    cases h1 : x.sent.is with
    | false => rfl
    | true =>
      obtain ⟨j, e, q1, q2, -⟩ := (b.2.1.cls i x hx).2.is h1
      have := (List.getElem?_eq_some_iff.1 q2).1
      omega
  cases hh : x.held.is with
  | false =>
    have h8 := s.nil i x rfl hx hsent hh
    obtain rfl : h' = h := s.no (by omega)
    refine ⟨fun hr k y hk hy => ?_, fun hr => ⟨(a.2.1 hr).1, fun k y hk hy => ?_⟩, fun hr => a.2.2 hr⟩
    · by_cases hki : k = i
      · subst hki
        obtain rfl := Option.some.inj (hx.symm.trans hy)
        exact hh
      · exact a.1 hr k y (by omega) hy
    · by_cases hki : k = i
      · subst hki
        obtain rfl := Option.some.inj (hx.symm.trans hy)
        exact ⟨hs, hsent, hh⟩
      · exact (a.2.1 hr).2 k y (by omega) hy
  | true =>
    have h0 : c = 0 := hc.resolve_right (s.ne i x rfl hx hsent hh)
    obtain ⟨hiff, hyes⟩ := s.go i x rfl hx hsent hh
    obtain ⟨e, lv, h1, h2, rfl⟩ := hyes h0
    refine ⟨fun hr k y hk hy => ?_, fun hr => ?_, fun hr => ?_⟩
    · change (h.cls.set i { x with sent := x.held, held := Mb.none })[k]? = some y at hy
      by_cases hki : k = i
      · subst hki
        rw [get_set hx] at hy
        obtain rfl := Option.some.inj hy
        rfl
      · rw [List.getElem?_set_ne (by omega)] at hy
        exact a.1 hr k y (by omega) hy
    · have := (a.2.1 hr).1 i x hx
      rw [hh] at this
      exact absurd this (by decide)
    · have := (a.2.2 hr i x hx).2.2
      rw [hh] at this
      exact absurd this (by decide)
theorem quiet_done {h : Hb} (a : ∀ (k : Nat) (x : Cl), h.cls[k]? = some x → x.done h.log.length) : h.quiet = true := by
  unfold Hb.quiet
  rw [List.all_eq_true]
  intro x hx
  obtain ⟨k, hk⟩ := List.getElem?_of_mem hx
  obtain ⟨h1, h2, h3⟩ := a k x hk
  simp [Cl.busy, h1, h2, h3]
theorem text_done {d : List UInt8} {h : Hb} (g : HI d h) {k : Nat} {x : Cl} (hx : h.cls[k]? = some x) (a : x.done h.log.length) : x.text = h.main := by
  obtain ⟨h1, h2, h3⟩ := a
  have hp := (g.cls k x hx).1.text
  unfold Mb.app at hp
  rw [h2, h3] at hp
  simp only [Bool.false_eq_true, if_false] at hp
  rw [h1, ← g.main] at hp
  have h4 := congrArg bs hp
  exact h4
end Go.Proofs.Ytaibpnblnigkgaa
