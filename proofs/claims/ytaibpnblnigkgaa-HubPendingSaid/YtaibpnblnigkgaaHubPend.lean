/-
  The contract of a hub's Pending. Conditions: the hub lies in memory, and came so far from a text.
-/
import Derived.Test.YtaibpnblnigkgaaHubActed
namespace Go.Proofs.Ytaibpnblnigkgaa
open Go.RowKit Gx
set_option maxRecDepth 100000

theorem six_more {w : World} {b : Nat} {x0 x1 x2 x3 x4 x5 : Value} {ty : TypeId} {p : Nat × Nat} (h : w.heap[b]? = some (.cells #[x0, x1, x2, x3, x4, x5] ty p)) : w.cell? ⟨b, 0, none⟩ = some x0 ∧ w.cell? ⟨b, 3, none⟩ = some x3 ∧ w.cell? ⟨b, 5, none⟩ = some x5 :=
  ⟨by simp [World.cell?, h], by simp [World.cell?, h], by simp [World.cell?, h]⟩
/-- what is pending, and what it makes of a text -/
def PendP (d : List UInt8) (t : List UInt8) (w : World) (e : Ending) (w' : World) : Prop :=
  ∃ (po : Option Addr) (pc : Nat) (c : Int) (l : List Part), e = .returned (.tuple #[.slice po l.length pc, .int .i64 c]) ∧ Below w.heap.size w w' ∧ (c = 2 ∨ (c = 0 ∧ PR w' po pc l ∧ apErr d l = 0 ∧ apT d l = t))
theorem Dj_len {d : List UInt8} {h : Hb} (g : HI d h) (hd : d.length ≤ 20000) : ∀ j, j ≤ h.log.length → (Dj d h.log j).length ≤ 20000
  | 0, _ => by unfold Dj; simpa using hd
  | j + 1, hj => by
    obtain ⟨e, he⟩ : ∃ e, h.log[j]? = some e := ⟨_, List.getElem?_eq_getElem (by omega)⟩
    have ha := g.log j e he
    obtain ⟨hc, -, hm⟩ := apT_len ha
    rw [Dj_succ d h.log j e he, ← hm]
    exact (chk_zero.1 hc).2.2.2
theorem keep_law {s : List UInt8} (hs : s.length ≤ 20000) : chk (keepAll s.length) = 0 ∧ apErr s (nf (ex (keepAll s.length))) = 0 ∧ apT s (nf (ex (keepAll s.length))) = s := by
  have h1 := chk_keepAll s.length hs
  have h2 : apErr s (keepAll s.length) = 0 := apErr_of h1 (by rw [ex_keepAll, U.over_ks])
  refine ⟨h1, by rw [apErr_nf h1]; exact h2, ?_⟩
  rw [apT_same (same_nf (ex (keepAll s.length)))]
  unfold apT
  rw [ex_keepAll, U.app_ks, List.take_of_length_le (Nat.le_refl _)]
set_option maxHeartbeats 8000000 in
theorem Pending_any {B R C cap : Nat} {h : Hb} {w : World} (m : HM B R C cap h w) (d : List UInt8) (hd : d.length ≤ 20000) (gd : Good h) (g : HI d h) (k : Nat) (x : Cl) (hk : h.cls[k]? = some x) :
    Calls Try.prog 12 #[.pointer (some ⟨R, 0, none⟩), .int .i64 k] w (PendP (Dj d h.log x.seen) x.text.data.toList w) := by
  have hlt := (List.getElem?_eq_some_iff.1 hk).1
  have hcap := m.cl
  have H := Lib.hid (there_yes m k hlt)
  have hcl := gd.cl x (List.mem_of_getElem? hk)
  have hpd := (g.cls k x hk).1
  have hlen : (Dj d h.log x.seen).length ≤ 20000 := Dj_len g hd _ hcl.1
  obtain ⟨-, -, c2, -⟩ := m.cells
  obtain ⟨d0, d1, d2, d3, d4, d5, -⟩ := m.row.cell hk
  have hps : PR w x.sent.ad x.sent.cap x.sent.l := (m.parts x.sent.pt (.inr ⟨x, List.mem_of_getElem? hk, .inl rfl⟩)).1
  have hph : PR w x.held.ad x.held.cap x.held.l := (m.parts x.held.pt (.inr ⟨x, List.mem_of_getElem? hk, .inr rfl⟩)).1
  have hal := fun o => (Below.refl w.heap.size w).alloc (Nat.le_refl _) o
  obtain ⟨D, hD⟩ : ∃ D, Dj d h.log x.seen = D := ⟨_, rfl⟩
  rw [hD] at hpd hlen ⊢
  have HPD := Lib.hid hpd
  have i1 : (0 : Int) ≤ (k : Int) := by omega
  have i2 : (k : Int) < (h.cls.length : Int) := by omega
  have HB1 := Lib.hid (hal (.cells #[.string x.text, .int .i64 x.seen, .bool x.sent.is, .slice x.sent.ad x.sent.l.length x.sent.cap, .bool x.held.is, .slice x.held.ad x.held.l.length x.held.cap] 69))
  have HX1 := Lib.hid (heap_alloc_new w (.cells #[.string x.text, .int .i64 x.seen, .bool x.sent.is, .slice x.sent.ad x.sent.l.length x.sent.cap, .bool x.held.is, .slice x.held.ad x.held.l.length x.held.cap] 69))
  have HP1 := Lib.hid (hps.keep HB1.out)
  have HQ1 := Lib.hid (hph.keep (hal (.cells #[.string x.text, .int .i64 x.seen, .bool x.sent.is, .slice x.sent.ad x.sent.l.length x.sent.cap, .bool x.held.is, .slice x.held.ad x.held.l.length x.held.cap] 69)))
  obtain ⟨SL, hSL⟩ : ∃ SL, x.sent.l.length = SL := ⟨_, rfl⟩
  obtain ⟨HL, hHL⟩ : ∃ HL, x.held.l.length = HL := ⟨_, rfl⟩
  have HSL := Lib.hid hSL
  have HHL := Lib.hid hHL
  rw [hSL] at d3 HB1 HX1 HP1 HQ1
  rw [hHL] at d5 HB1 HX1 HP1 HQ1
  clear m gd g hk hpd hps hph hal hD hSL hHL hd
  cases hs : x.sent.is with
  | true =>
    have hcs := hcl.2.1 hs
    have hfs := HPD.out.sent hs
    rw [hs] at d2 HB1 HX1 HP1 HQ1
    cases hh : x.held.is with
    | true =>
      have hch := hcl.2.2 hh
      have hfh := HPD.out.held hh
      have htx := HPD.out.text
      unfold Mb.app at hfh htx
      rw [hs] at hfh htx
      rw [hh] at htx
      simp only [if_true] at hfh htx
      have hmo : U.makes (ex x.sent.l) = U.over (ex x.held.l) := (apT_len hfs).2.2.trans (apT_len hfh).2.1.symm
      have HLW : Hid (chk (cmpT x.sent.l x.held.l) = 0 → apErr D (cmpT x.sent.l x.held.l) = 0 ∧ apT D (cmpT x.sent.l x.held.l) = x.text.data.toList) := Lib.hid fun hr => by
        obtain ⟨q1, q2⟩ := join_law (s := D) (a := x.sent.l) (b := x.held.l) ⟨hcs, hch, hmo, hr⟩ hfs
        exact ⟨q1, by rw [q2, htx]⟩
      rw [hh] at d4 HB1 HX1 HP1 HQ1
      have HCO : Hid (∀ wz, PR wz x.sent.ad x.sent.cap x.sent.l → PR wz x.held.ad x.held.cap x.held.l → Calls Try.prog 25 #[.slice x.sent.ad SL x.sent.cap, .slice x.held.ad HL x.held.cap] wz (ComposePost (cmpT x.sent.l x.held.l) wz)) := Lib.hid fun wz p1 p2 => by
        rw [← HSL.out, ← HHL.out]
        exact Compose_any x.sent.ad x.held.ad x.sent.cap x.held.cap x.sent.l x.held.l wz p1 p2 hcs hch hmo
      clear hs hh hcs hfs hch hfh htx hmo hcl
      go_enter Try.func12, Try.ntmps12
      go_wp2_with fail
      refine H.out.mono ?_
      rintro e w0 ⟨rfl, rfl⟩
      go_upto_region 4 with fail
      try rw [HSL.out]
      try rw [HHL.out]
      generalize w0.alloc (.cells #[.string x.text, .int .i64 x.seen, .bool true, .slice x.sent.ad SL x.sent.cap, .bool true, .slice x.held.ad HL x.held.cap] 69) = w1 at HB1 HX1 HP1 HQ1 ⊢
      clear c2 d0 d1 d2 d3 d4 d5
      obtain ⟨y1, y2, y4⟩ := six_cells HX1.out
      obtain ⟨y0, y3, y5⟩ := six_more HX1.out
      go_wp2_with fail
      refine (HCO.out w1 HP1.out HQ1.out).mono ?_
      rintro e w2 ⟨p1, p2⟩
      by_cases hr : chk (cmpT x.sent.l x.held.l) = 0
      · obtain ⟨mo, mc, rfl, ⟨hp, -⟩, hb⟩ := p1 hr
        have HB2 := Lib.hid (HB1.out.trans (hb.mono HB1.out.size))
        have HPP := Lib.hid hp
        have HRR := Lib.hid hr
        clear p1 p2 hp hb hr
        go_wp2_with fail
        try go_ret2
        exact ⟨mo, mc, 0, cmpT x.sent.l x.held.l, rfl, HB2.out, .inr ⟨rfl, HPP.out, HLW.out HRR.out⟩⟩
      · obtain ⟨rfl, hb⟩ := p2 hr
        have HB2 := Lib.hid (HB1.out.trans (hb.mono HB1.out.size))
        clear p1 p2 hb hr
        go_wp2_with fail
        try go_ret2
        exact ⟨none, 0, 2, [], rfl, HB2.out, .inl rfl⟩
    | false =>
      have htx := HPD.out.text
      unfold Mb.app at htx
      rw [hs, hh] at htx
      simp only [if_true, Bool.false_eq_true, if_false] at htx
      rw [hh] at d4 HB1 HX1 HP1 HQ1
      have HFS := Lib.hid hfs
      have HTX := Lib.hid htx
      have HCS : Hid (x.sent.l.length ≤ 100000) := Lib.hid (by have := (chk_zero.1 hcs).1; omega)
      have HCL0 : Hid (∀ wz, PR wz x.sent.ad x.sent.cap x.sent.l → Calls Try.prog 20 #[.slice x.sent.ad SL x.sent.cap] wz (ClonePP x.sent.l wz)) := Lib.hid fun wz p1 => by
        rw [← HSL.out]
        exact clonep_any wz x.sent.ad x.sent.cap x.sent.l p1 HCS.out
      unfold ClonePP at HCL0
      clear hs hh hcs hfs htx hcl
      go_enter Try.func12, Try.ntmps12
      go_wp2_with fail
      refine H.out.mono ?_
      rintro e w0 ⟨rfl, rfl⟩
      go_upto_region 4 with fail
      try rw [HSL.out]
      try rw [HHL.out]
      generalize w0.alloc (.cells #[.string x.text, .int .i64 x.seen, .bool true, .slice x.sent.ad SL x.sent.cap, .bool false, .slice x.held.ad HL x.held.cap] 69) = w1 at HB1 HX1 HP1 HQ1 ⊢
      clear c2 d0 d1 d2 d3 d4 d5
      obtain ⟨y1, y2, y4⟩ := six_cells HX1.out
      obtain ⟨y0, y3, y5⟩ := six_more HX1.out
      have HCL := Lib.hid (HCL0.out w1 HP1.out)
      go_wp2_with fail
      refine HCL.out.mono ?_
      rintro e w2 ⟨no, nc, rfl, hp, -, hb⟩
      try rw [HSL.out]
      try rw [HHL.out]
      have HB2 := Lib.hid (HB1.out.trans (hb.mono HB1.out.size))
      have HPP := Lib.hid hp
      clear hp hb
      go_wp2_with fail
      try go_ret2
      exact ⟨no, nc, 0, x.sent.l, (by rw [HSL.out]; rfl), HB2.out, .inr ⟨rfl, HPP.out, HFS.out, HTX.out.symm⟩⟩
  | false =>
    rw [hs] at d2 HB1 HX1 HP1 HQ1
    cases hh : x.held.is with
    | true =>
      have hch := hcl.2.2 hh
      have hfh := HPD.out.held hh
      have htx := HPD.out.text
      unfold Mb.app at hfh htx
      rw [hs] at hfh htx
      rw [hh] at htx
      simp only [if_true, Bool.false_eq_true, if_false] at hfh htx
      rw [hh] at d4 HB1 HX1 HP1 HQ1
      have HFS := Lib.hid hfh
      have HTX := Lib.hid htx
      have HCS : Hid (x.held.l.length ≤ 100000) := Lib.hid (by have := (chk_zero.1 hch).1; omega)
      have HCL0 : Hid (∀ wz, PR wz x.held.ad x.held.cap x.held.l → Calls Try.prog 20 #[.slice x.held.ad HL x.held.cap] wz (ClonePP x.held.l wz)) := Lib.hid fun wz p1 => by
        rw [← HHL.out]
        exact clonep_any wz x.held.ad x.held.cap x.held.l p1 HCS.out
      unfold ClonePP at HCL0
      clear hs hh hch hfh htx hcl
      go_enter Try.func12, Try.ntmps12
      go_wp2_with fail
      refine H.out.mono ?_
      rintro e w0 ⟨rfl, rfl⟩
      go_upto_region 4 with fail
      try rw [HSL.out]
      try rw [HHL.out]
      generalize w0.alloc (.cells #[.string x.text, .int .i64 x.seen, .bool false, .slice x.sent.ad SL x.sent.cap, .bool true, .slice x.held.ad HL x.held.cap] 69) = w1 at HB1 HX1 HP1 HQ1 ⊢
      clear c2 d0 d1 d2 d3 d4 d5
      obtain ⟨y1, y2, y4⟩ := six_cells HX1.out
      obtain ⟨y0, y3, y5⟩ := six_more HX1.out
      have HCL := Lib.hid (HCL0.out w1 HQ1.out)
      go_wp2_with fail
      refine HCL.out.mono ?_
      rintro e w2 ⟨no, nc, rfl, hp, -, hb⟩
      try rw [HSL.out]
      try rw [HHL.out]
      have HB2 := Lib.hid (HB1.out.trans (hb.mono HB1.out.size))
      have HPP := Lib.hid hp
      clear hp hb
      go_wp2_with fail
      try go_ret2
      exact ⟨no, nc, 0, x.held.l, (by rw [HHL.out]; rfl), HB2.out, .inr ⟨rfl, HPP.out, HFS.out, HTX.out.symm⟩⟩
    | false =>
      have htx := HPD.out.text
      unfold Mb.app at htx
      rw [hs, hh] at htx
      simp only [Bool.false_eq_true, if_false] at htx
      rw [hh] at d4 HB1 HX1 HP1 HQ1
      have hsz : D.length = x.text.size := by rw [← htx]; exact Array.length_toList
      obtain ⟨k1, k2, k3⟩ := keep_law hlen
      rw [hsz] at k1 k2 k3 hlen
      have K1 := Lib.hid k1
      have K2 := Lib.hid k2
      have K3 := Lib.hid (k3.trans htx.symm)
      clear hs hh htx hsz k1 k2 k3 hcl
      go_enter Try.func12, Try.ntmps12
      go_wp2_with fail
      refine H.out.mono ?_
      rintro e w0 ⟨rfl, rfl⟩
      go_upto_region 4 with fail
      try rw [HSL.out]
      try rw [HHL.out]
      generalize w0.alloc (.cells #[.string x.text, .int .i64 x.seen, .bool false, .slice x.sent.ad SL x.sent.cap, .bool false, .slice x.held.ad HL x.held.cap] 69) = w1 at HB1 HX1 HP1 HQ1 ⊢
      clear c2 d0 d1 d2 d3 d4 d5
      obtain ⟨y1, y2, y4⟩ := six_cells HX1.out
      obtain ⟨y0, y3, y5⟩ := six_more HX1.out
      have hob := heap_alloc_new w1 (.cells #[.int .i64 1, .int .i64 x.text.size, .string ⟨#[]⟩] 54)
      obtain ⟨z0, z1, z2⟩ := act_cells hob
      have ha1 := (Below.refl w1.heap.size w1).alloc (Nat.le_refl _) (.cells #[.int .i64 1, .int .i64 x.text.size, .string ⟨#[]⟩] 54)
      have HA1 := Lib.hid (HB1.out.trans (ha1.mono HB1.out.size))
      have hpk : PR (w1.alloc (.cells #[.int .i64 1, .int .i64 x.text.size, .string ⟨#[]⟩] 54)) (some ⟨w1.heap.size, 0, none⟩) 1 (keepAll x.text.size) := by
        refine ⟨by simp [keepAll], by decide, fun q hq => ?_, (fun e => by cases e), fun a ha _ => ?_⟩
        · exact (wf_of_chk K1.out) q hq
        · cases ha
          refine ⟨rfl, by rw [World.size_alloc]; exact Nat.lt_succ_self _, fun j q hj => ?_⟩
          cases j with
          | zero =>
            obtain rfl : ((1 : Int), (x.text.size : Int), ([] : List UInt8)) = q := by simpa [keepAll] using hj
            exact ⟨z0, z1, z2⟩
          | succ j => simp [keepAll] at hj
      have HNO := Lib.hid (Norm_pr _ 1 (keepAll x.text.size) _ hpk K1.out)
      unfold PartsPost at HNO
      rw [show (keepAll x.text.size).length = 1 from rfl] at HNO
      clear hob z0 z1 z2 ha1 hpk
      go_wp2_with fail
      refine HNO.out.mono ?_
      rintro e w2 ⟨mo, mc, rfl, ⟨hp, -⟩, hb⟩
      have HB2 := Lib.hid (HA1.out.trans (hb.mono HA1.out.size))
      have HPP := Lib.hid hp
      clear hp hb HNO
      go_wp2_with fail
      try go_ret2
      exact ⟨mo, mc, 0, nf (ex (keepAll x.text.size)), rfl, HB2.out, .inr ⟨rfl, HPP.out, K2.out, K3.out⟩⟩
end Go.Proofs.Ytaibpnblnigkgaa
