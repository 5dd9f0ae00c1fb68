/-
  The statement SpliceBack's walk: what was changed is changed back. Conditions: the parts lie where the argument says.
-/
import Derived.Test.YtacmgnidnonjhaaSpliceFin
namespace Go.Proofs.Ytacmgnidnonjhaa
open Go.RowKit Gx

set_option maxHeartbeats 4000000 in
theorem spliceBack_walk (s : ByteArray) (ad : Option Addr) (cap : Nat) (l : List Part) (w : World) (h : PR w ad cap l) :
    Calls Try.prog 4 #[.string s, .slice ad l.length cap] w (TruePost w) := by
  by_cases hc : apErr s.data.toList l = 0
  · have hck := (apT_len hc).1
    have hlaw := back_law hc
    have HA1 := fun w0 (hb0 : Below w.heap.size w w0) => Apply_ok s ad cap l w0 (h.keep hb0) hc
    have HI1 := fun w0 (hb0 : Below w.heap.size w w0) => Invert_pr s ad cap l w0 (h.keep hb0) hc
    have HN1 := fun w0 (hb0 : Below w.heap.size w w0) => Norm_pr ad cap l w0 (h.keep hb0) hck
    have hnl := (chk_zero.1 (chk_nf hck)).1
    obtain ⟨B, hB⟩ : ∃ B, B = nf (inv (ex l) s.data.toList) := ⟨_, rfl⟩
    obtain ⟨T, hT⟩ : ∃ B, B = apT s.data.toList l := ⟨_, rfl⟩
    obtain ⟨N, hN⟩ : ∃ B, B = nf (ex l) := ⟨_, rfl⟩
    rw [← hB, ← hT, ← hN] at hlaw
    rw [← hT] at HA1
    rw [← hB] at HI1
    rw [← hN] at HN1 hnl
    have HA2 := fun (hb : B.length ≤ 400) w0 mo mc (hp : PR w0 mo mc B) => Apply_ok (bs T) mo mc B w0 hp (hlaw hb).1
    have HI2 := fun (hb : B.length ≤ 400) w0 mo mc (hp : PR w0 mo mc B) => Invert_pr (bs T) mo mc B w0 hp (hlaw hb).1
    have e1 := fun (hb : B.length ≤ 400) => (hlaw hb).2.1
    have e2 := fun (hb : B.length ≤ 400) => (hlaw hb).2.2
    have HA3 : B.length ≤ 400 → ∀ w0 mo mc, PR w0 mo mc B → Calls Try.prog 11 #[.string (bs T), .slice mo B.length mc] w0 fun e w' => e = .returned (.tuple #[.string s, .int .i64 0]) ∧ Below w0.heap.size w0 w' := by
      intro hb w0 mo mc hp
      refine (HA2 hb w0 mo mc hp).mono ?_
      rintro e w' ⟨rfl, hb'⟩
      refine ⟨?_, hb'⟩
      have : apT (bs T).data.toList B = s.data.toList := e1 hb
      rw [this, bs_list]
    have HI3 : B.length ≤ 400 → ∀ w0 mo mc, PR w0 mo mc B → Calls Try.prog 13 #[.string (bs T), .slice mo B.length mc] w0 (PartsPost N w0) := by
      intro hb w0 mo mc hp
      rw [← e2 hb]
      exact HI2 hb w0 mo mc hp
    have HEQ := fun w0 ma ca mb cb (hp : PR w0 ma ca N) (hq : PR w0 mb cb N) => partEqual_any ma mb ca cb N w0 hp hq (by omega)
    obtain ⟨n, hn⟩ : ∃ n, n = l.length := ⟨_, rfl⟩
    obtain ⟨k, hk⟩ : ∃ n, n = B.length := ⟨_, rfl⟩
    obtain ⟨j, hj⟩ : ∃ n, n = N.length := ⟨_, rfl⟩
    rw [← hn] at HA1 HI1 HN1 ⊢
    rw [← hk] at HA3 HI3
    rw [← hj] at HEQ
    have HK := Lib.hid hk
    have HJ := Lib.hid hj
    replace HA1 := Lib.hid HA1
    replace HI1 := Lib.hid HI1
    replace HN1 := Lib.hid HN1
    replace HA3 := Lib.hid HA3
    replace HI3 := Lib.hid HI3
    replace HEQ := Lib.hid HEQ
    clear h hc hck hlaw hnl hB hT hN HA2 HI2 e1 e2 hn hk hj
    have hss := bs_size T
    have HSS := Lib.hid hss
    clear hss
    go_enter Try.func4, Try.ntmps4
    go_wp2_with fail
    refine (splices_any w).mono ?_
    rintro e w0 ⟨rfl, hb0⟩
    have B0 := Lib.hid hb0
    clear hb0
    go_wp2_with fail
    refine (HA1.out w0 B0.out).mono ?_
    rintro e w1 ⟨rfl, hb⟩
    have B1 := Lib.hid (B0.out.trans (hb.mono B0.out.size))
    clear hb B0 HA1
    go_wp2_with fail
    refine (HI1.out w1 B1.out).mono ?_
    rintro e w2 ⟨mo, mc, rfl, hp, hb⟩
    rw [← HK.out]
    have P2 := Lib.hid hp
    have B2 := Lib.hid (B1.out.trans (hb.mono B1.out.size))
    clear hb hp B1 HI1
    by_cases hbig : 400 < k
    · have t1 : decide ((400 : Int) < (k : Int)) = true := decide_eq_true (by omega)
      go_wp2
      go_ret
      exact ⟨rfl, B2.out⟩
    · have t1 : decide ((400 : Int) < (k : Int)) = false := decide_eq_false (by omega)
      have hk4 : Hid (k ≤ 400) := Nat.le_of_not_lt hbig
      have HA4 := Lib.hid (HA3.out hk4.out)
      have HI4 := Lib.hid (HI3.out hk4.out)
      clear HA3 HI3
      go_wp2_with fail
      refine (HA4.out w2 _ _ P2.out).mono ?_
      rintro e w3 ⟨rfl, hb⟩
      have P3 := Lib.hid (P2.out.keep hb)
      have B3 := Lib.hid (B2.out.trans (hb.mono B2.out.size))
      clear hb B2 P2
      go_wp2_with fail
      refine (HI4.out w3 _ _ P3.out).mono ?_
      rintro e w4 ⟨no, nc, rfl, hp, hb⟩
      rw [← HJ.out]
      have Q4 := Lib.hid hp
      have B4 := Lib.hid (B3.out.trans (hb.mono B3.out.size))
      clear hb hp B3 P3
      go_wp2_with fail
      refine (HN1.out w4 B4.out).mono ?_
      rintro e w5 ⟨oo, oc, rfl, hp, hb⟩
      rw [← HJ.out]
      have R5 := Lib.hid hp
      have Q5 := Lib.hid (Q4.out.keep hb)
      have B5 := Lib.hid (B4.out.trans (hb.mono B4.out.size))
      clear hb hp B4 Q4
      go_wp2_with fail
      refine (HEQ.out w5 _ _ _ _ Q5.out R5.out).mono ?_
      rintro e w7 ⟨rfl, hb⟩
      have B7 := Lib.hid (B5.out.trans (hb.mono B5.out.size))
      clear hb B5
      go_wp2
      go_ret
      exact ⟨rfl, B7.out⟩
  · have HA1 := Lib.hid (fun w0 (hb0 : Below w.heap.size w w0) => Apply_no s ad cap l w0 (h.keep hb0) hc)
    have HI1 := Lib.hid (fun w0 (hb0 : Below w.heap.size w w0) => Invert_no s ad cap l w0 (h.keep hb0) hc)
    obtain ⟨c, hcc⟩ : ∃ c, c = apErr s.data.toList l := ⟨_, rfl⟩
    obtain ⟨n, hn⟩ : ∃ n, n = l.length := ⟨_, rfl⟩
    rw [← hcc] at hc HA1 HI1
    rw [← hn] at HA1 HI1 ⊢
    obtain ⟨t1, t2, t3⟩ := kne hc
    clear h hc hcc hn
    go_enter Try.func4, Try.ntmps4
    go_wp2_with fail
    refine (splices_any w).mono ?_
    rintro e w0 ⟨rfl, hb0⟩
    have B0 := Lib.hid hb0
    clear hb0
    go_wp2_with fail
    refine (HA1.out w0 B0.out).mono ?_
    rintro e w1 ⟨rfl, hb⟩
    have B1 := Lib.hid (B0.out.trans (hb.mono B0.out.size))
    clear hb B0 HA1
    go_wp2_with fail
    refine (HI1.out w1 B1.out).mono ?_
    rintro e w2 ⟨rfl, hb⟩
    have B2 := Lib.hid (B1.out.trans (hb.mono B1.out.size))
    clear hb B1 HI1
    go_wp2
    go_ret
    exact ⟨rfl, B2.out⟩
end Go.Proofs.Ytacmgnidnonjhaa
