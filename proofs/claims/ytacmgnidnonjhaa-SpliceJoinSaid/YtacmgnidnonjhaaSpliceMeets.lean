/-
  The statement SpliceMeets' walk: two changes over each other make one text. Conditions: the parts lie where the arguments say.
-/
import Derived.Test.YtacmgnidnonjhaaSpliceFin
namespace Go.Proofs.Ytacmgnidnonjhaa
open Go.RowKit Gx

theorem apply_bs (s : ByteArray) (S : List UInt8) (hs : s = bs S) (ad : Option Addr) (cap : Nat) (l : List Part) (w : World) (h : PR w ad cap l) (he : apErr S l = 0) :
    Calls Try.prog 11 #[.string s, .slice ad l.length cap] w fun e w' => e = .returned (.tuple #[.string (bs (apT S l)), .int .i64 0]) ∧ Below w.heap.size w w' := by
  subst hs
  exact Apply_ok (bs S) ad cap l w h he

set_option maxHeartbeats 4000000 in
theorem spliceMeets_walk (s : ByteArray) (ad : Option Addr) (ca : Nat) (l : List Part) (bd : Option Addr) (cb : Nat) (m : List Part) (w : World) (h : PR w ad ca l) (g : PR w bd cb m) :
    Calls Try.prog 5 #[.string s, .slice ad l.length ca, .slice bd m.length cb] w (TruePost w) := by
  have HT := fun w0 (hb : Below w.heap.size w w0) => Transform_w ad bd ca cb l m w0 (h.keep hb) (g.keep hb)
  have HA := fun w0 (hb : Below w.heap.size w w0) => Apply_w s ad ca l w0 (h.keep hb)
  have HB := fun w0 (hb : Below w.heap.size w w0) => Apply_w s bd cb m w0 (g.keep hb)
  have hlaw := fun h1 h2 h3 => meets_law (s := s.data.toList) (a := l) (b := m) h1 h2 h3
  obtain ⟨S, hS⟩ : ∃ S, S = s.data.toList := ⟨_, rfl⟩
  obtain ⟨n, hn⟩ : ∃ n, n = l.length := ⟨_, rfl⟩
  obtain ⟨k, hk⟩ : ∃ n, n = m.length := ⟨_, rfl⟩
  rw [← hS] at HA HB hlaw
  rw [← hn] at HT HA ⊢
  rw [← hk] at HT HB ⊢
  replace HT := Lib.hid HT
  replace HA := Lib.hid HA
  replace HB := Lib.hid HB
  replace hlaw := Lib.hid hlaw
  clear h g hS hn hk
  go_enter Try.func5, Try.ntmps5
  go_wp2_with fail
  refine (splices_any w).mono ?_
  rintro e w0 ⟨rfl, hb0⟩
  have B0 := Lib.hid hb0
  clear hb0
  go_wp2_with fail
  refine (HT.out w0 B0.out).mono ?_
  rintro e w1 ⟨mo, no, i, j, mc, nc, c, rfl, hc0, hc1, hc2, hb⟩
  have C0 := Lib.hid hc0
  have C1 := Lib.hid hc1
  have C2 := Lib.hid hc2
  have B1 := Lib.hid (B0.out.trans (hb.mono B0.out.size))
  clear hb B0 HT hc0 hc1 hc2
  go_wp2_with fail
  refine (HA.out w1 B1.out).mono ?_
  rintro e w2 ⟨t, c2, rfl, hd0, hd1, hb⟩
  have D0 := Lib.hid hd0
  have D1 := Lib.hid hd1
  have B2 := Lib.hid (B1.out.trans (hb.mono B1.out.size))
  have H12 := Lib.hid hb
  clear hb B1 HA hd0 hd1
  go_wp2_with fail
  refine (HB.out w2 B2.out).mono ?_
  rintro e w3 ⟨u, c3, rfl, he0, he1, hb⟩
  have E0 := Lib.hid he0
  have E1 := Lib.hid he1
  have B3 := Lib.hid (B2.out.trans (hb.mono B2.out.size))
  have H13 := Lib.hid (H12.out.trans (hb.mono H12.out.size))
  clear hb B2 HB he0 he1 H12
  rcases kz c 0 with ⟨hz, z1, z2, z3⟩ | ⟨hz, z1, z2, z3⟩
  · subst hz
    rcases kz c2 0 with ⟨hy, y1, y2, y3⟩ | ⟨hy, y1, y2, y3⟩
    · subst hy
      rcases kz c3 0 with ⟨hx, x1, x2, x3⟩ | ⟨hx, x1, x2, x3⟩
      · subst hx
        obtain ⟨q1, q2, q3⟩ := hlaw.out (C0.out.1 rfl) D0.out.symm E0.out.symm
        obtain ⟨⟨rfl, hp⟩, rfl, hq⟩ := C1.out rfl
        have P3 := Lib.hid (hp.keep H13.out)
        have Q3 := Lib.hid (hq.keep H13.out)
        have V1 := Lib.hid (fun w0 (hb : Below w3.heap.size w3 w0) => apply_bs t _ (D1.out rfl) no nc (trR l m) w0 (Q3.out.keep hb) q1)
        have V2 := Lib.hid (fun w0 (hb : Below w3.heap.size w3 w0) => apply_bs u _ (E1.out rfl) mo mc (trL l m) w0 (P3.out.keep hb) q2)
        rw [q3] at V1
        obtain ⟨Z, hZ⟩ : ∃ Z, Z = apT (apT S m) (trL l m) := ⟨_, rfl⟩
        rw [← hZ] at V1 V2
        clear q1 q2 q3 hp hq hZ C0 C1 C2 D0 D1 E0 E1 H13 hlaw P3 Q3 z1 z2 z3 y1 y2 y3 x1 x2 x3
        go_wp2_with fail
        refine (V1.out w3 (Below.refl _ _)).mono ?_
        rintro e w4 ⟨rfl, hb⟩
        have H4 := Lib.hid hb
        have B4 := Lib.hid (B3.out.trans (hb.mono B3.out.size))
        clear hb
        go_wp2_with fail
        refine (V2.out w4 H4.out).mono ?_
        rintro e w5 ⟨rfl, hb⟩
        have B5 := Lib.hid (B4.out.trans (hb.mono B4.out.size))
        clear hb B4 H4
        go_wp2
        go_ret
        exact ⟨rfl, B5.out⟩
      · clear hx C0 C1 C2 D0 D1 E0 E1 H13 hlaw
        by_cases hi : i = 0
        · by_cases hj : j = 0
          · subst hi hj
            go_wp2
            go_ret
            exact ⟨rfl, B3.out⟩
          · have hj2 : ((j : Int) == 0) = false := by simp; omega
            have hj3 : (j == 0) = false := by simp; omega
            subst hi
            go_wp2
            go_ret
            exact ⟨rfl, B3.out⟩
        · have hi2 : ((i : Int) == 0) = false := by simp; omega
          have hi3 : (i == 0) = false := by simp; omega
          go_wp2
          go_ret
          exact ⟨rfl, B3.out⟩
    · clear hy C0 C1 C2 D0 D1 E0 E1 H13 hlaw
      by_cases hi : i = 0
      · by_cases hj : j = 0
        · subst hi hj
          go_wp2
          go_ret
          exact ⟨rfl, B3.out⟩
        · have hj2 : ((j : Int) == 0) = false := by simp; omega
          have hj3 : (j == 0) = false := by simp; omega
          subst hi
          go_wp2
          go_ret
          exact ⟨rfl, B3.out⟩
      · have hi2 : ((i : Int) == 0) = false := by simp; omega
        have hi3 : (i == 0) = false := by simp; omega
        go_wp2
        go_ret
        exact ⟨rfl, B3.out⟩
  · obtain ⟨rfl, rfl⟩ := C2.out hz
    clear hz C0 C1 C2 D0 D1 E0 E1 H13 hlaw
    go_wp2
    go_ret
    exact ⟨rfl, B3.out⟩
end Go.Proofs.Ytacmgnidnonjhaa
