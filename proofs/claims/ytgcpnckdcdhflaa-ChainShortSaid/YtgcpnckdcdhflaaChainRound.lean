/-
  The walks of typecasekeep.chains and ChainRound. Conditions: the links lie in the world.
-/
import Derived.Test.YtgcpnckdcdhflaaChainPlan
namespace Go.Proofs.Ytgcpnckdcdhflaa
open Go.RowKit Gx

def TruePost (w : World) (e : Ending) (w' : World) : Prop := e = .returned (.bool true) ∧ Below w.heap.size w w'

theorem Leads.append {L : Links} : ∀ {o s : List Nat} {a b c : Int}, Leads L o a b → Leads L s b c → Leads L (o ++ s) a c
  | [], _, a, b, c, h1, h2 => by
    obtain rfl : a = b := h1
    exact h2
  | _ :: _, _, _, _, _, ⟨p, h1, h2, h3⟩, h4 => ⟨p, h1, h2, h3.append h4⟩

/-- how long a way is, if there is one -/
def PlanLen (L : Links) (a b : Int) (n : Nat) (er : Int) : Prop :=
  ∃ f, Dist L b f ∧ ((f a = none ∧ er = 8 ∧ n = 0) ∨ (f a = some n ∧ er = 0 ∧ ∃ o, o.length = n ∧ Leads L o a b))

theorem planLen_any (ad : Option Addr) (cap : Nat) (L : Links) (a b : Int) (w : World) (hL : Lk w ad cap L) (hl : L.length ≤ 100) (ha : (Lit.int .i64 a).wf = true) (hb : (Lit.int .i64 b).wf = true) :
    Calls Try.prog 6 #[.slice ad L.length cap, .int .i64 a, .int .i64 b] w fun e w' =>
      ∃ ad' n cap' er, e = .returned (.tuple #[.slice ad' n cap', .int .i64 er]) ∧ Hid (PlanLen L a b n er ∧ n ≤ 100) ∧ Below w.heap.size w w' := by
  refine (plan_any ad cap L a b w hL hl ha hb).mono ?_
  rintro e w' ⟨f, hD, hb, ⟨hn, rfl⟩ | ⟨o, ad', cap', hw, rfl, hr⟩⟩
  · exact ⟨none, 0, 0, 8, rfl, ⟨⟨f, hD, .inl ⟨hn, rfl, rfl⟩⟩, by omega⟩, hb⟩
  · have h1 := hw.len 0 hD.d1
    rw [Nat.zero_add] at h1
    have := hD.d4 _ _ h1
    exact ⟨ad', o.length, cap', 0, rfl, ⟨⟨f, hD, .inr ⟨h1, rfl, o, rfl, hw.leads⟩⟩, by omega⟩, hb⟩

theorem PlanLen.same {L : Links} {a : Int} {n : Nat} {er : Int} (h : PlanLen L a a n er) : er = 0 ∧ n = 0 := by
  obtain ⟨f, hD, ⟨h1, _⟩ | ⟨h1, h2, -⟩⟩ := h
  · rw [hD.d1] at h1; cases h1
  · rw [hD.d1] at h1; cases h1; exact ⟨h2, rfl⟩

theorem PlanLen.round {L : Links} {a b c : Int} {n1 n2 n3 : Nat} {e1 e2 e3 : Int} (h1 : PlanLen L a b n1 e1) (h2 : PlanLen L b c n2 e2) (h3 : PlanLen L a c n3 e3) (z1 : e1 = 0) (z2 : e2 = 0) : e3 = 0 ∧ n3 ≤ n1 + n2 := by
  obtain ⟨f1, -, ⟨_, k1, _⟩ | ⟨_, _, o1, l1, w1⟩⟩ := h1
  · omega
  obtain ⟨f2, -, ⟨_, k2, _⟩ | ⟨_, _, o2, l2, w2⟩⟩ := h2
  · omega
  obtain ⟨f3, D3, h3⟩ := h3
  obtain ⟨d, hd, hle⟩ := D3.least _ _ (w1.append w2)
  rw [List.length_append] at hle
  rcases h3 with ⟨h3, -⟩ | ⟨h3, z, -⟩
  · rw [hd] at h3; cases h3
  · rw [hd] at h3; cases h3; exact ⟨z, by omega⟩

theorem PlanLen.err {L : Links} {a b : Int} {n : Nat} {er : Int} (h : PlanLen L a b n er) : er = 0 ∨ er = 8 := by
  obtain ⟨f, -, ⟨_, h, _⟩ | ⟨_, h, _⟩⟩ := h
  · exact .inr h
  · exact .inl h

theorem lk_one (w : World) : Lk (w.alloc (.cells #[.int .i64 1, .int .i64 2, .slice none 0 0] 34)) (some ⟨w.heap.size, 0, none⟩) 1 [(1, 2)] := by
  refine ⟨Nat.le_refl _, by decide, fun p hp => ?_, (fun h => by cases h), fun a ha hp => ?_⟩
  · simp at hp; subst hp; decide
  · cases ha
    refine ⟨rfl, by simp, fun j p hj => ?_⟩
    cases j with
    | zero =>
      simp at hj
      subst hj
      have h0 := World.cell?_alloc_mark w #[.int .i64 1, .int .i64 2, .slice none 0 0] 34 (0, 0) 0
      have h1 := World.cell?_alloc_mark w #[.int .i64 1, .int .i64 2, .slice none 0 0] 34 (0, 0) 1
      have h2 := World.cell?_alloc_mark w #[.int .i64 1, .int .i64 2, .slice none 0 0] 34 (0, 0) 2
      exact ⟨h0, h1, none, 0, 0, h2⟩
    | succ j => simp at hj

set_option maxHeartbeats 1000000 in
theorem chains_any (w : World) : Calls Try.prog 5 #[] w (TruePost w) := by
  have hcall := planLen_any (some ⟨w.heap.size, 0, none⟩) 1 [(1, 2)] 1 2 _ (lk_one w) (by decide) (by decide) (by decide)
  have HC := Lib.hid hcall
  clear hcall
  go_enter Try.func5, Try.ntmps5
  go_wp2_with fail
  refine HC.out.mono ?_
  rintro e w2 ⟨ad', n, cap', er, rfl, hP, hb⟩
  have h1 : er = 0 ∧ n = 1 := by
    obtain ⟨⟨f, D, hc⟩, -⟩ := hP.out
    obtain ⟨d, hd, hle⟩ := D.least [0] 1 ⟨(1, 2), rfl, rfl, rfl⟩
    simp at hle
    rcases hc with ⟨h, -⟩ | ⟨h, h2, -⟩
    · rw [hd] at h; cases h
    · have hdn : d = n := by rw [hd] at h; exact Option.some.inj h
      refine ⟨h2, ?_⟩
      have h0 : n ≠ 0 := by
        intro h0
        subst h0
        have := D.zero h
        omega
      omega
  obtain ⟨rfl, rfl⟩ := h1
  have hb2 : Below w.heap.size w w2 := ((Below.refl w.heap.size w).alloc (Nat.le_refl _) _).trans (hb.mono (by simp))
  clear hP hb
  go_wp2
  go_ret
  exact ⟨rfl, hb2⟩

set_option maxRecDepth 4000 in
set_option maxHeartbeats 4000000 in
theorem chainRound_walk (ad : Option Addr) (cap : Nat) (L : Links) (a b c : Int) (w : World) (hL : Lk w ad cap L) (ha : (Lit.int .i64 a).wf = true) (hb : (Lit.int .i64 b).wf = true) (hc : (Lit.int .i64 c).wf = true) :
    Calls Try.prog 3 #[.slice ad L.length cap, .int .i64 a, .int .i64 b, .int .i64 c] w (TruePost w) := by
  have hcap := hL.ncap
  have hc63 := hL.cap63
  by_cases hl : L.length ≤ 100
  · have hp := fun w' (hbw : Below w.heap.size w w') x y hx hy => planLen_any ad cap L x y w' (hL.keep hbw) hl hx hy
    have HP := Lib.hid hp
    have HA := Lib.hid ha
    have HB := Lib.hid hb
    have HC := Lib.hid hc
    clear hp ha hb hc hL
    obtain ⟨N, hN⟩ : ∃ N, N = L.length := ⟨_, rfl⟩
    rw [← hN] at HP hl hcap ⊢
    clear hN
    go_enter Try.func3, Try.ntmps3
    go_wp2_with fail
    refine (chains_any w).mono ?_
    rintro e w1 ⟨rfl, hb1⟩
    go_wp2_with fail
    refine (HP.out w1 hb1 a b HA.out HB.out).mono ?_
    rintro e w2 ⟨x1, n1, y1, e1, rfl, hP1, hb⟩
    have hb2 : Below w.heap.size w w2 := hb1.trans (hb.mono hb1.size)
    clear hb hb1
    go_wp2_with fail
    refine (HP.out w2 hb2 b c HB.out HC.out).mono ?_
    rintro e w3 ⟨x2, n2, y2, e2, rfl, hP2, hb⟩
    have hb3 : Below w.heap.size w w3 := hb2.trans (hb.mono hb2.size)
    clear hb hb2
    go_wp2_with fail
    refine (HP.out w3 hb3 a c HA.out HC.out).mono ?_
    rintro e w4 ⟨x3, n3, y3, e3, rfl, hP3, hb⟩
    have hb4 : Below w.heap.size w w4 := hb3.trans (hb.mono hb3.size)
    clear hb hb3
    go_wp2_with fail
    refine (HP.out w4 hb4 a a HA.out HA.out).mono ?_
    rintro e w5 ⟨x4, n4, y4, e4, rfl, hP4, hb⟩
    have hb5 : Below w.heap.size w w5 := hb4.trans (hb.mono hb4.size)
    clear hb hb4
    obtain ⟨rfl, rfl⟩ := hP4.out.1.same
    have hround := hP1.out.1.round hP2.out.1 hP3.out.1
    have m1 := hP1.out.2
    have m2 := hP2.out.2
    have m3 := hP3.out.2
    have q1 := hP1.out.1.err
    have q2 := hP2.out.1.err
    have q3 := hP3.out.1.err
    clear hP1 hP2 hP3 hP4
    rcases q1 with rfl | rfl
    · rcases q2 with rfl | rfl
      · obtain ⟨rfl, hle⟩ := hround rfl rfl
        have hle2 : (n3 : Int) ≤ (n1 : Int) + (n2 : Int) := by omega
        clear hround q3
        go_wp2
        go_ret
        exact ⟨by simp, hb5⟩
      · clear hround
        go_wp2
        go_ret
        exact ⟨by simp, hb5⟩
    · clear hround
      go_wp2
      go_ret
      exact ⟨by simp, hb5⟩
  · obtain ⟨N, hN⟩ : ∃ N, N = L.length := ⟨_, rfl⟩
    rw [← hN] at hl hcap ⊢
    clear hN hL ha hb hc
    have hl2 : (100 : Int) < (N : Int) := by omega
    go_enter Try.func3, Try.ntmps3
    go_wp2_with fail
    refine (chains_any w).mono ?_
    rintro e w1 ⟨rfl, hb1⟩
    go_wp2
    go_ret
    exact ⟨by simp, hb1⟩
end Go.Proofs.Ytgcpnckdcdhflaa
