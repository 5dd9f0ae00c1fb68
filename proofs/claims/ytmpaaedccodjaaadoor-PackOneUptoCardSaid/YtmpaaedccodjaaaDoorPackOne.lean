/-
  PackOne's walk. Conditions: Go's two tables of utf8 lie in the world; the bytes are no more than 100000000.
-/
import Derived.Test.YtmpaaedccodjaaaDoorPackBackLaw
import Derived.Test.YtmpaaedccodjaaaDoorAlike
namespace Go.Proofs.YtmpaaedccodjaaaDoor
open Go.RowKit Gx
set_option maxRecDepth 100000

def TrueOne (w : World) (e : Ending) (w' : World) : Prop := e = .returned (.bool true) ∧ Below w.heap.size w w'
theorem Rd.bytesIn {w : World} {ad : Option Addr} {cap : Nat} {xs : List Int} (h : Rd .u8 w ad cap xs) : Lib.BytesIn w ad xs.length xs := by
  by_cases hp : 0 < xs.length
  · obtain ⟨b, off, rfl, -, hc⟩ := h.addr hp
    exact fun _ => ⟨b, off, rfl, hc⟩
  · exact fun hn => absurd hn hp
theorem Out.bytesIn {w : World} {base : Nat} {ao : Option Addr} {c : Nat} {xs : List Int} (h : Out w base (.slice ao xs.length c) xs) (hw : ∀ x ∈ xs, (Lit.int .u8 x).wf = true) : Lib.BytesIn w ao xs.length xs := by
  obtain ⟨ad, cap, e, hr⟩ := Rd.own h hw
  cases e
  exact Rd.bytesIn hr
/-- the memory behind Unpack -/
structure OneB (w : World) (ad : Option Addr) (cap : Nat) (l : List Int) (W : World) : Prop where
  rd : Rd .u8 W ad cap l
  g : Below w.heap.size w W
theorem OneB.keep {w : World} {ad : Option Addr} {cap : Nat} {l : List Int} {W W' : World} (h : OneB w ad cap l W) (hb : Below W.heap.size W W') : OneB w ad cap l W' := ⟨h.rd.keep hb, h.g.trans (hb.mono h.g.size)⟩
theorem bytesOf_self (l : List Int) : (Lib.bytesOf l == Lib.bytesOf l) = true := by simp

set_option maxHeartbeats 16000000 in
theorem packOne_walk (ad : Option Addr) (cap : Nat) (l : List Int) (w : World) (hT : Tabs w) (h : Rd .u8 w ad cap l) (hl : l.length ≤ 100000000) : Calls Tryd.prog 5 #[.slice ad l.length cap] w (TrueOne w) := by
  have hbl : bytesL l := fun x hx => by
    have := h.wf x hx
    have e0 : IntKind.u8.min = 0 := rfl
    have e1 : IntKind.u8.max = 255 := rfl
    simp only [Lit.wf, decide_eq_true_eq, Bool.and_eq_true] at this
    unfold isByte
    omega
  have HP := Lib.hid (OneB.mk h (Below.refl _ _))
  have HT := Lib.hid hT
  have HL := Lib.hid hl
  have HBK := Lib.hid (unpk_back hbl)
  obtain ⟨L, hL⟩ : ∃ L, l.length = L := ⟨_, rfl⟩
  rw [hL]
  have HN := Lib.hid hL
  clear hT h hl hbl hL
  go_enter Tryd.func5, Tryd.ntmps5
  go_wp2_with fail
  (with_reducible refine (packs_any _ HT.out).mono ?_)
  rintro e w3 ⟨rfl, hb3⟩
  have HP3 := Lib.hid (HP.out.keep hb3)
  clear hb3 HP
  have hup := Unpack_any ad cap l w3 (HT.out.keep HP3.out.g) HP3.out.rd HL.out
  obtain ⟨u, hu⟩ : ∃ u, unpk l = u := ⟨_, rfl⟩
  rw [HN.out] at hup
  have HUP := Lib.hid hup
  have HU := Lib.hid hu
  clear hup hu
  go_wp2_with fail
  (with_reducible refine HUP.out.mono ?_)
  rintro e w4 ⟨p, rfl, hp, hb4, hpv⟩
  rw [HU.out] at hpv ⊢
  have HP4 := Lib.hid (HP3.out.keep hb4)
  have hb6 := (Below.refl w4.heap.size w4).alloc (Nat.le_refl _) (.cells #[.int .i64 p.v.k, .int .i64 p.v.n, .int .u64 p.v.f, .string p.v.s, .slice p.ad p.v.l.length p.cap, .slice p.bd p.v.e.length p.dap] 26)
  have hbx := CellsAt.box (q := p) (heap_alloc_new w4 (.cells #[.int .i64 p.v.k, .int .i64 p.v.n, .int .u64 p.v.f, .string p.v.s, .slice p.ad p.v.l.length p.cap, .slice p.bd p.v.e.length p.dap] 26))
  have HPV := Lib.hid hpv
  have hp6 := (hp.weak (C := fun _ => True) (fun _ _ _ => trivial)).keep hb6
  have HP6 := Lib.hid (HP4.out.keep hb6)
  obtain ⟨r, hr⟩ : ∃ r, u.2 = r := ⟨_, rfl⟩
  rw [hr]
  have HR := Lib.hid hr
  simp only [Loc.val]
  clear hpv hp hb4 hb6 hr HUP HP4 HP3
  go_upto_region 4 with fail
  generalize hw6 : World.alloc w4 _ = w6 at HP6 hp6 hbx ⊢
  generalize hvb : w4.heap.size = vb at hbx ⊢
  have HQ6 := Lib.hid hp6
  obtain ⟨b0, b1, b2, b3, b4, b5⟩ := hbx
  clear hw6 hvb hp6
  by_cases h1 : r = 0
  rotate_left
  · have t1 : ((r : Int) != 0) = true := by simp; omega
    have hz : p.v = V.zero := HPV.out.trans (by rw [← HU.out]; exact HBK.out.1 (by rw [HU.out, HR.out]; exact h1))
    have hal : Calls Tryd.prog 14 #[.agg #[.int .i64 p.v.k, .int .i64 p.v.n, .int .u64 p.v.f, .string p.v.s, .slice p.ad p.v.l.length p.cap, .slice p.bd p.v.e.length p.dap], .agg #[.int .i64 0, .int .i64 0, .int .u64 0, .string ⟨#[]⟩, .slice none 0 0, .slice none 0 0]] w6 (AlikePost p.v V.zero w6) :=
      alike_any p ⟨V.zero, none, 0, none, 0⟩ w6 HQ6.out (VAt.zero _ _ _ _ _ _)
    have HAL := Lib.hid hal
    have HZ := Lib.hid hz
    clear h1 hz hal
    go_wp2_with fail
    (with_reducible refine HAL.out.mono ?_)
    rintro e w7 ⟨b, rfl, hbt, hb7⟩
    obtain rfl : b = true := hbt.2 HZ.out
    have HP7 := Lib.hid (HP6.out.keep hb7)
    clear hbt hb7
    go_wp2_with fail
    try go_ret
    exact ⟨rfl, HP7.out.g⟩
  subst h1
  have hkv : chkV p.v = 0 ∧ l = p.v.pk := by
    have := HBK.out.2 (by rw [HU.out, HR.out])
    rw [HU.out, ← HPV.out] at this
    exact this
  have hpk := Pack_any p w6 (HT.out.keep HP6.out.g) HQ6.out
  simp only [Loc.val] at hpk
  have HPK := Lib.hid hpk
  have HKV := Lib.hid hkv
  clear hpk hkv
  go_wp2_with fail
  (with_reducible refine HPK.out.mono ?_)
  rintro e w7 ⟨ao, m, c, rfl, hb7, -, hyes⟩
  rw [HKV.out.1]
  obtain ⟨hm, ho⟩ := hyes HKV.out.1
  rw [← HKV.out.2] at hm ho
  rw [hm, HN.out]
  rw [hm] at ho
  have hw := HP6.out.rd.wf
  have hbo := Out.bytesIn ho hw
  have HP7 := Lib.hid (HP6.out.keep hb7)
  have hbi := Rd.bytesIn HP7.out.rd
  have heq := Tryd.bytes_Equal_all ad ao L cap L c l l w7 HN.out HN.out (by rw [← HN.out]; exact hbi) (by rw [← HN.out]; exact hbo)
  rw [bytesOf_self] at heq
  have HEQ := Lib.hid heq
  clear hyes hm ho hw hbo hbi heq hb7 HPK
  go_wp2_with fail
  (with_reducible refine HEQ.out.mono ?_)
  rintro e w8 ⟨rfl, rfl⟩
  go_wp2_with fail
  try go_ret
  exact ⟨rfl, HP7.out.g⟩
end Go.Proofs.YtmpaaedccodjaaaDoor
