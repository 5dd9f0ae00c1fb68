/-
  The statement SpliceJoin's walk: two changes as one. Conditions: the parts lie where the argument says.
-/
import Derived.Test.YtacmgnidnonjhaaSpliceMeets
namespace Go.Proofs.Ytacmgnidnonjhaa
open Go.RowKit Gx

set_option maxHeartbeats 4000000 in
theorem spliceJoin_walk (s : ByteArray) (ad : Option Addr) (ca : Nat) (a : List Part) (bd : Option Addr) (cb : Nat) (b : List Part) (dd : Option Addr) (cd : Nat) (d : List Part) (w : World) (h : PR w ad ca a) (g : PR w bd cb b) (f : PR w dd cd d) :
    Calls Try.prog 6 #[.string s, .slice ad a.length ca, .slice bd b.length cb, .slice dd d.length cd] w (TruePost w) := by
  have HA := fun w0 (hb : Below w.heap.size w w0) => Apply_w s ad ca a w0 (h.keep hb)
  have HB := fun t w0 (hb : Below w.heap.size w w0) => Apply_w t bd cb b w0 (g.keep hb)
  have HC := fun w0 (hb : Below w.heap.size w w0) => Compose_w ad bd ca cb a b w0 (h.keep hb) (g.keep hb)
  have HD := fun w0 (hb : Below w.heap.size w w0) => Compose_w bd dd cb cd b d w0 (g.keep hb) (f.keep hb)
  have HE := fun w0 mo mc (hb : Below w.heap.size w w0) (hp : PR w0 mo mc (cmpT a b)) => Compose_w mo dd mc cd (cmpT a b) d w0 hp (f.keep hb)
  have HF := fun w0 mo mc (hb : Below w.heap.size w w0) (hp : PR w0 mo mc (cmpT b d)) => Compose_w ad mo ca mc a (cmpT b d) w0 (h.keep hb) hp
  have hlaw := fun h1 h2 => join_law (s := s.data.toList) (a := a) (b := b) h1 h2
  obtain ⟨S, hS⟩ : ∃ S, S = s.data.toList := ⟨_, rfl⟩
  have hSb : s = bs S := by rw [hS, bs_list]
  obtain ⟨n, hn⟩ : ∃ n, n = a.length := ⟨_, rfl⟩
  obtain ⟨k, hk⟩ : ∃ n, n = b.length := ⟨_, rfl⟩
  obtain ⟨q, hq⟩ : ∃ n, n = d.length := ⟨_, rfl⟩
  rw [← hS] at HA hlaw
  rw [← hn] at HA HC HF ⊢
  rw [← hk] at HB HC HD ⊢
  rw [← hq] at HD HE ⊢
  replace HA := Lib.hid HA
  replace HB := Lib.hid HB
  replace HC := Lib.hid HC
  replace HD := Lib.hid HD
  replace HE := Lib.hid HE
  replace HF := Lib.hid HF
  replace hlaw := Lib.hid hlaw
  have HS := Lib.hid hSb
  clear h g f hS hn hk hq hSb
  go_enter Try.func6, Try.ntmps6
  go_wp2_with fail
  refine (splices_any w).mono ?_
  rintro e w0 ⟨rfl, hb0⟩
  have B0 := Lib.hid hb0
  clear hb0
  go_wp2_with fail
  refine (HA.out w0 B0.out).mono ?_
  rintro e w1 ⟨t, c1, rfl, hd0, hd1, hb⟩
  have D0 := Lib.hid hd0
  have D1 := Lib.hid hd1
  have B1 := Lib.hid (B0.out.trans (hb.mono B0.out.size))
  clear hb B0 HA hd0 hd1
  go_wp2_with fail
  refine (HB.out t w1 B1.out).mono ?_
  rintro e w2 ⟨u, c2, rfl, he0, he1, hb⟩
  have E0 := Lib.hid he0
  have E1 := Lib.hid he1
  have B2 := Lib.hid (B1.out.trans (hb.mono B1.out.size))
  clear hb B1 HB he0 he1
  go_wp2_with fail
  refine (HC.out w2 B2.out).mono ?_
  rintro e w3 ⟨mo, i, mc, c3, rfl, hc0, hc1, hb⟩
  have C0 := Lib.hid hc0
  have C1 := Lib.hid hc1
  have B3 := Lib.hid (B2.out.trans (hb.mono B2.out.size))
  clear hb B2 HC hc0 hc1
  rcases kz c1 0 with ⟨hz, z1, z2, z3⟩ | ⟨hz, z1, z2, z3⟩
  · subst hz
    rcases kz c2 0 with ⟨hy, y1, y2, y3⟩ | ⟨hy, y1, y2, y3⟩
    · subst hy
      rcases kz c3 0 with ⟨hx, x1, x2, x3⟩ | ⟨hx, x1, x2, x3⟩
      · subst hx
        obtain ⟨rfl, hp⟩ := C1.out rfl
        have hok := C0.out.1 rfl
        obtain ⟨q1, q2⟩ := hlaw.out hok D0.out.symm
        have ht := D1.out rfl
        have hu := E1.out rfl
        rw [ht] at hu
        have hu2 : u = bs (apT S (cmpT a b)) := by rw [q2]; exact hu
        have P3 := Lib.hid hp
        have V1 := Lib.hid (fun w0 (hb : Below w3.heap.size w3 w0) => apply_bs s S HS.out mo mc (cmpT a b) w0 (P3.out.keep hb) q1)
        rw [← hu2] at V1
        have HOK := Lib.hid hok
        obtain ⟨j, hj⟩ : ∃ j, j = (cmpT a b).length := ⟨_, rfl⟩
        rw [← hj] at V1 HE ⊢
        clear q1 q2 ht hu hu2 hok hp hj C0 C1 D0 D1 E0 E1 hlaw z1 z2 z3 y1 y2 y3 x1 x2 x3
        go_wp2_with fail
        refine (V1.out w3 (Below.refl _ _)).mono ?_
        rintro e w4 ⟨rfl, hb⟩
        have P4 := Lib.hid (P3.out.keep hb)
        have B4 := Lib.hid (B3.out.trans (hb.mono B3.out.size))
        clear hb P3 V1 B3
        go_wp2_with fail
        refine (HD.out w4 B4.out).mono ?_
        rintro e w5 ⟨no, v, nc, c4, rfl, hc0, hc1, hb⟩
        have C0 := Lib.hid hc0
        have C1 := Lib.hid hc1
        have P5 := Lib.hid (P4.out.keep hb)
        have B5 := Lib.hid (B4.out.trans (hb.mono B4.out.size))
        clear hb P4 B4 HD hc0 hc1
        rcases kz c4 0 with ⟨hz, z1, z2, z3⟩ | ⟨hz, z1, z2, z3⟩
        · subst hz
          obtain ⟨rfl, hp⟩ := C1.out rfl
          have HOK2 := Lib.hid (C0.out.1 rfl)
          have Q5 := Lib.hid hp
          obtain ⟨v, hv⟩ : ∃ j, j = (cmpT b d).length := ⟨_, rfl⟩
          rw [← hv] at HF ⊢
          clear hp hv C0 C1 z1 z2 z3
          go_wp2_with fail
          refine (HE.out w5 _ _ B5.out P5.out).mono ?_
          rintro e w6 ⟨oo, x, oc, c5, rfl, hc0, hc1, hb⟩
          have C0 := Lib.hid hc0
          have C1 := Lib.hid hc1
          have Q6 := Lib.hid (Q5.out.keep hb)
          have B6 := Lib.hid (B5.out.trans (hb.mono B5.out.size))
          clear hb Q5 P5 B5 HE hc0 hc1
          go_wp2_with fail
          refine (HF.out w6 _ _ B6.out Q6.out).mono ?_
          rintro e w7 ⟨po, y, pc, c6, rfl, hd0, hd1, hb⟩
          have D0 := Lib.hid hd0
          have D1 := Lib.hid hd1
          have B7 := Lib.hid (B6.out.trans (hb.mono B6.out.size))
          have H67 := Lib.hid hb
          clear hb Q6 B6 HF hd0 hd1
          rcases kz c5 0 with ⟨hz, z1, z2, z3⟩ | ⟨hz, z1, z2, z3⟩
          · subst hz
            rcases kz c6 0 with ⟨hy, y1, y2, y3⟩ | ⟨hy, y1, y2, y3⟩
            · subst hy
              obtain ⟨rfl, hp⟩ := C1.out rfl
              obtain ⟨rfl, hq⟩ := D1.out rfl
              have hk1 := C0.out.1 rfl
              have hk2 := D0.out.1 rfl
              have e := three_law HOK.out HOK2.out hk1 hk2
              have hl := (chk_zero.1 hk1.r0).1
              have R7 := hp.keep H67.out
              rw [← e] at hq ⊢
              obtain ⟨R, hR⟩ : ∃ R, R = cmpT (cmpT a b) d := ⟨_, rfl⟩
              rw [← hR] at hq R7 hl ⊢
              have HEQ := Lib.hid (partEqual_any oo po oc pc R w7 R7 hq (by omega))
              obtain ⟨x, hx⟩ : ∃ x, x = R.length := ⟨_, rfl⟩
              rw [← hx] at HEQ ⊢
              clear hp hq hk1 hk2 e hl R7 hR hx z1 z2 z3 y1 y2 y3 C0 C1 D0 D1
              go_wp2_with fail
              refine HEQ.out.mono ?_
              rintro e w8 ⟨rfl, hb⟩
              have B8 := Lib.hid (B7.out.trans (hb.mono B7.out.size))
              clear hb
              go_wp2
              go_ret
              exact ⟨rfl, B8.out⟩
            · clear hy
              go_wp2
              go_ret
              exact ⟨rfl, B7.out⟩
          · clear hz
            go_wp2
            go_ret
            exact ⟨rfl, B7.out⟩
        · clear hz
          go_wp2
          go_ret
          exact ⟨rfl, B5.out⟩
      · clear hx
        go_wp2
        go_ret
        exact ⟨rfl, B3.out⟩
    · clear hy
      go_wp2
      go_ret
      exact ⟨rfl, B3.out⟩
  · clear hz
    go_wp2
    go_ret
    exact ⟨rfl, B3.out⟩
end Go.Proofs.Ytacmgnidnonjhaa
