/-
  PathParts' walk. Conditions: Go's two tables of utf8 lie in the world; the paths' lengths are within the form's reach.
-/
import Derived.Test.YtpjigecmnefnhaaDoorGetP
import Derived.Test.YtpjigecmnefnhaaDoorAlike
import Derived.Test.YtpjigecmnefnhaaDoorPathsOk
import Derived.Test.YtpjigecmnefnhaaDoorStepClone
namespace Go.Proofs.YtpjigecmnefnhaaDoor
open Go.RowKit Gx
set_option maxRecDepth 100000

def TrueParts (w : World) (e : Ending) (w' : World) : Prop := e = .returned (.bool true) ∧ Below w.heap.size w w'
/-- the arguments; v, boxed -/
structure PP (w : World) (q : Loc) (ad bd : Option Addr) (ca cb : Nat) (p r : List Step) (W : World) : Prop where
  b : CellsAt W w.heap.size 0 q
  lt : w.heap.size < W.heap.size
  g : Below w.heap.size w W
  hq : VAt W (fun _ => True) q
  hp : SR W ad ca p
  hr : SR W bd cb r
theorem PP.keep {w : World} {q : Loc} {ad bd : Option Addr} {ca cb : Nat} {p r : List Step} {W W' : World} (h : PP w q ad bd ca cb p r W) (hb : Below W.heap.size W W') : PP w q ad bd ca cb p r W' :=
  ⟨h.b.through (hb.block _ h.lt), Nat.lt_of_lt_of_le h.lt hb.size, h.g.trans (hb.mono (Nat.le_of_lt h.lt)), h.hq.keep hb, h.hp.keep hb, h.hr.keep hb⟩
theorem PP.start {w : World} {q : Loc} {ad bd : Option Addr} {ca cb : Nat} {p r : List Step} (hq : VAt w (fun _ => True) q) (hp : SR w ad ca p) (hr : SR w bd cb r) :
    PP w q ad bd ca cb p r (w.alloc (.cells #[.int .i64 q.v.k, .int .i64 q.v.n, .int .u64 q.v.f, .string q.v.s, .slice q.ad q.v.l.length q.cap, .slice q.bd q.v.e.length q.dap] 26)) := by
  have hb := (Below.refl w.heap.size w).alloc (Nat.le_refl _) (.cells #[.int .i64 q.v.k, .int .i64 q.v.n, .int .u64 q.v.f, .string q.v.s, .slice q.ad q.v.l.length q.cap, .slice q.bd q.v.e.length q.dap] 26)
  exact ⟨CellsAt.box (q := q) (heap_alloc_new w _), by simp, hb, hq.keep hb, hp.keep hb, hr.keep hb⟩
/-- and both paths together -/
structure PQ (w : World) (q : Loc) (ad bd eo : Option Addr) (ca cb ec : Nat) (p r : List Step) (W : World) : Prop where
  pp : PP w q ad bd ca cb p r W
  both : SR W eo ec (p ++ r)
theorem PQ.keep {w : World} {q : Loc} {ad bd eo : Option Addr} {ca cb ec : Nat} {p r : List Step} {W W' : World} (h : PQ w q ad bd eo ca cb ec p r W) (hb : Below W.heap.size W W') : PQ w q ad bd eo ca cb ec p r W' := ⟨h.pp.keep hb, h.both.keep hb⟩
/-- what was stored in a new block -/
theorem PQ.box {w : World} {q : Loc} {ad bd eo : Option Addr} {ca cb ec : Nat} {p r : List Step} {W : World} (h : PQ w q ad bd eo ca cb ec p r W) (B : Nat → Prop) (u : Loc) (hu : VAt W B u) :
    let W' := W.alloc (.cells #[.int .i64 u.v.k, .int .i64 u.v.n, .int .u64 u.v.f, .string u.v.s, .slice u.ad u.v.l.length u.cap, .slice u.bd u.v.e.length u.dap] 26)
    PQ w q ad bd eo ca cb ec p r W' ∧ VAt W' (fun _ => True) u ∧ CellsAt W' W.heap.size 0 u ∧ W.heap.size < W'.heap.size ∧ Below W.heap.size W W' := by
  have hb := (Below.refl W.heap.size W).alloc (Nat.le_refl _) (.cells #[.int .i64 u.v.k, .int .i64 u.v.n, .int .u64 u.v.f, .string u.v.s, .slice u.ad u.v.l.length u.cap, .slice u.bd u.v.e.length u.dap] 26)
  exact ⟨h.keep hb, (hu.weak (fun _ _ _ => trivial)).keep hb, CellsAt.box (q := u) (heap_alloc_new W _), by simp, hb⟩
theorem pathOk_app {p r : List Step} (hp : PathOk p) (hr : PathOk r) (h : p.length + r.length ≤ 20) : PathOk (p ++ r) :=
  ⟨by rw [List.length_append]; exact h, fun x hx => by
    rcases List.mem_append.1 hx with hx | hx
    · exact hp.2 x hx
    · exact hr.2 x hx⟩
set_option maxHeartbeats 16000000 in
theorem pathParts_walk (q : Loc) (ad bd : Option Addr) (ca cb : Nat) (p r : List Step) (w : World) (hT : Tabs w) (hq : VAt w (fun _ => True) q) (hp : SR w ad ca p) (hr : SR w bd cb r) (hp4 : p.length ≤ 140737488351232) (hr4 : r.length ≤ 140737488351232) :
    Calls Tryd.prog 3 #[q.val, .slice ad p.length ca, .slice bd r.length cb] w (TrueParts w) := by
  have HP0 := Lib.hid (PP.start hq hp hr)
  have HT := Lib.hid hT
  obtain ⟨n, hn⟩ : ∃ n, p.length = n := ⟨_, rfl⟩
  obtain ⟨m, hm⟩ : ∃ m, r.length = m := ⟨_, rfl⟩
  rw [hn] at hp4 ⊢
  rw [hm] at hr4 ⊢
  have HN := Lib.hid hn
  have HM := Lib.hid hm
  unfold Loc.val
  clear hq hp hr hT hn hm
  go_enter Tryd.func3, Tryd.ntmps3
  go_upto_region 1 with fail
  generalize hw2 : World.alloc w _ = w2 at HP0 ⊢
  clear hw2
  go_wp2_with fail
  (with_reducible refine (paths_any _ (HT.out.keep HP0.out.g)).mono ?_)
  rintro e w3 ⟨rfl, hb3⟩
  have HP3 := Lib.hid (HP0.out.keep hb3)
  clear hb3 HP0
  by_cases hbig : 20 < n + m
  · have t1 : decide ((20 : Int) < (n : Int) + (m : Int)) = true := decide_eq_true (by omega)
    have t2 : IntKind.i64.wrap ((n : Int) + (m : Int)) = (n : Int) + (m : Int) := by simp [IntKind.wrap, IntKind.bits, IntKind.signed]; omega
    go_wp2_with fail
    try go_ret
    exact ⟨rfl, HP3.out.g⟩
  have t1 : decide ((20 : Int) < (n : Int) + (m : Int)) = false := decide_eq_false (by omega)
  have t2 : IntKind.i64.wrap ((n : Int) + (m : Int)) = (n : Int) + (m : Int) := by simp [IntKind.wrap, IntKind.bits, IntKind.signed]; omega
  have hc1 := chkPath_any ad ca p w3 HP3.out.hp (HT.out.keep HP3.out.g)
  rw [HN.out] at hc1
  have HC1 := Lib.hid hc1
  clear hc1
  go_wp2_with fail
  (with_reducible refine HC1.out.mono ?_)
  rintro e w4 ⟨c1, rfl, hok1, hb4⟩
  have HP4 := Lib.hid (HP3.out.keep hb4)
  have HK1 := Lib.hid hok1
  clear hok1 hb4 HP3 HC1
  by_cases h1 : c1 = 0
  rotate_left
  · have t3 : (c1 != 0) = true := by simpa using h1
    clear h1
    go_wp2_with fail
    try go_ret
    exact ⟨rfl, HP4.out.g⟩
  subst h1
  have hc2 := chkPath_any bd cb r w4 HP4.out.hr (HT.out.keep HP4.out.g)
  rw [HM.out] at hc2
  have HC2 := Lib.hid hc2
  clear hc2
  go_wp2_with fail
  (with_reducible refine HC2.out.mono ?_)
  rintro e w5 ⟨c2, rfl, hok2, hb5⟩
  have HP5 := Lib.hid (HP4.out.keep hb5)
  have HK2 := Lib.hid hok2
  clear hok2 hb5 HP4 HC2
  by_cases h2 : c2 = 0
  rotate_left
  · have t3 : (c2 != 0) = true := by simpa using h2
    clear h2
    go_wp2_with fail
    try go_ret
    exact ⟨rfl, HP5.out.g⟩
  subst h2
  have hcl := clone_any ad ca p w5 HP5.out.hp (by rw [HN.out]; omega)
  unfold ClonePost at hcl
  rw [HN.out] at hcl
  have HCL := Lib.hid hcl
  clear hcl
  go_wp2_with fail
  (with_reducible refine HCL.out.mono ?_)
  rintro e w6 ⟨ao, cl, rfl, hso, hb6⟩
  have HP6 := Lib.hid (HP5.out.keep hb6)
  unfold SOwn at hso
  rw [HN.out] at hso
  have HSO := Lib.hid hso
  have HSC := Lib.hid HP6.out.hr.cells
  have HNN : Hid (bd = none → m = 0 ∧ cb = 0) := Lib.hid (fun e => by have h1 := HP6.out.hr.none_ e; have h2 := HP6.out.hr.ncap; have h3 := HM.out; omega)
  have HLN : Hid ((stepCells r).length = m * 2) := Lib.hid (by rw [stepCells_len, HM.out])
  have HB6 := Lib.hid hb6.size
  have HBB := Lib.hid hb6
  clear hso hb6 HCL
  go_upto_region 6 with (at_builtin; refine Gx.wpList_append_all w6 rfl (.tmp 33) (.tmp 34) 27 rfl w5.heap.size 33 (.agg #[.string ⟨#[]⟩, .int .i64 0]) 2 24 Tryd.underlying27 Tryd.info_step rfl (by decide) (.slice ao n cl) n (stepCells p) bd m cb (stepCells r) rfl rfl HSO.out HLN.out HNN.out HSC.out (stepCells_one r) (by omega) (by omega) HB6.out ?_; intro v' w7 hown' hg' _)
  obtain ⟨vo, vc, rfl⟩ := own_form hown'
  have hp7 : PP w q ad bd ca cb p r w7 := HP5.out.keep (HBB.out.grown hg' HB6.out (fun k e => (HSO.out.lt k e).1))
  have hrow : w7.ownsRow w5.heap.size 33 2 (.slice vo (n + m) vc) (n + m) (stepCells (p ++ r)) := by
    have e : stepCells (p ++ r) = stepCells p ++ stepCells r := by simp [stepCells]
    rw [e]; exact hown'
  have HOK := Lib.hid (pathOk_app (HK1.out.1 trivial) (HK2.out.1 trivial) (by rw [HN.out, HM.out]; omega))
  have HOK1 := Lib.hid (HK1.out.1 trivial)
  have HOK2 := Lib.hid (HK2.out.1 trivial)
  obtain ⟨eo, ec, hee, hsr, -⟩ := SR.own hrow (by rw [List.length_append, HN.out, HM.out]) (fun x hx => by
    rcases List.mem_append.1 hx with hx | hx
    · exact hp7.hp.wf x hx
    · exact hp7.hr.wf x hx)
  cases hee
  have HQ7 := Lib.hid (PQ.mk hp7 hsr)
  have HGA := Lib.hid (getV_app p r q.v)
  clear hp7 hrow hsr hown' hg' HP5 HP6 HBB HB6 HSO HSC HNN HLN HK1 HK2
  obtain ⟨a0, a1, a2, a3, a4, a5⟩ := HQ7.out.pp.b
  have hg := get_any q ad ca p w7 (HT.out.keep HQ7.out.pp.g) HQ7.out.pp.hq HQ7.out.pp.hp HOK1.out
  simp only [Loc.val, HN.out] at hg
  have HG := Lib.hid hg
  clear hg
  obtain ⟨g1, hg1⟩ : ∃ g1, getV q.v p = g1 := ⟨_, rfl⟩
  obtain ⟨gv1, e1⟩ := g1
  have HG1 := Lib.hid hg1
  clear hg1
  go_wp2_with fail
  (with_reducible refine HG.out.mono ?_)
  rintro e w8 ⟨u1, rfl, hu1, hv1, hb8⟩
  rw [HG1.out] at hu1 ⊢
  have hb1 := (HQ7.out.keep hb8).box _ u1 hv1
  obtain ⟨hq9, hv9, hc9, hl9, -⟩ := hb1
  have HU1 := Lib.hid hu1
  simp only [Loc.val]
  clear hu1 hv1 hb8 HG HQ7 a0 a1 a2 a3 a4 a5
  go_upto_region 7 with fail
  generalize hw9 : World.alloc w8 _ = w9 at hq9 hv9 hc9 hl9 ⊢
  generalize hx1 : w8.heap.size = x1 at hc9 hl9 ⊢
  clear hw9 hx1
  have HQ9 := Lib.hid hq9
  have HV9 := Lib.hid hv9
  have HC9 := Lib.hid hc9
  clear hq9 hv9 hc9
  obtain ⟨a0, a1, a2, a3, a4, a5⟩ := HQ9.out.pp.b
  have hg := get_any q vo vc (p ++ r) w9 (HT.out.keep HQ9.out.pp.g) HQ9.out.pp.hq HQ9.out.both HOK.out
  simp only [Loc.val, List.length_append, HN.out, HM.out] at hg
  have HG := Lib.hid hg
  clear hg
  obtain ⟨g2, hg2⟩ : ∃ g2, getV q.v (p ++ r) = g2 := ⟨_, rfl⟩
  obtain ⟨gv2, e2⟩ := g2
  have HG2 := Lib.hid hg2
  clear hg2
  go_wp2_with fail
  (with_reducible refine HG.out.mono ?_)
  rintro e w10 ⟨u2, rfl, hu2, hv2, hb10⟩
  rw [HG2.out] at hu2 ⊢
  have hb1 := (HQ9.out.keep hb10).box _ u2 hv2
  obtain ⟨hq11, hv11, hc11, hl11, hbl⟩ := hb1
  have hv9b := (HV9.out.keep hb10).keep hbl
  have hc9b := HC9.out.through ((hb10.trans (hbl.mono hb10.size)).block _ hl9)
  have hl9b := Nat.lt_of_lt_of_le hl9 (Nat.le_trans hb10.size hbl.size)
  have HU2 := Lib.hid hu2
  simp only [Loc.val]
  clear hu2 hv2 hb10 HG HQ9 HV9 HC9 a0 a1 a2 a3 a4 a5 hbl hl9
  go_upto_region 8 with fail
  generalize hw9 : World.alloc w10 _ = w11 at hq11 hv11 hc11 hl11 hv9b hc9b hl9b ⊢
  generalize hx1 : w10.heap.size = x2 at hc11 hl11 ⊢
  clear hw9 hx1
  have HQ11 := Lib.hid hq11
  have HV1 := Lib.hid hv9b
  have HV2 := Lib.hid hv11
  have HC1 := Lib.hid hc9b
  have HC2 := Lib.hid hc11
  clear hq11 hv9b hv11 hc9b hc11
  have hga := HGA.out
  rw [HG1.out, HG2.out] at hga
  simp only at hga
  by_cases he : e1 = 0
  rotate_left
  · have t3 : (e1 != 0) = true := by simpa using he
    rw [if_neg he] at hga
    obtain ⟨rfl, rfl⟩ := Prod.mk.inj hga
    obtain ⟨b0, b1, b2, b3, b4, b5⟩ := HC2.out
    have hal : Calls Tryd.prog 9 #[.agg #[.int .i64 u2.v.k, .int .i64 u2.v.n, .int .u64 u2.v.f, .string u2.v.s, .slice u2.ad u2.v.l.length u2.cap, .slice u2.bd u2.v.e.length u2.dap], .agg #[.int .i64 0, .int .i64 0, .int .u64 0, .string ⟨#[]⟩, .slice none 0 0, .slice none 0 0]] w11 (AlikePost u2.v V.zero w11) :=
      alike_any u2 ⟨V.zero, none, 0, none, 0⟩ w11 HV2.out (VAt.zero _ _ _ _ _ _)
    have HAL := Lib.hid hal
    clear he hga hal
    go_wp2_with fail
    (with_reducible refine HAL.out.mono ?_)
    rintro e w12 ⟨b, rfl, hbt, hb12⟩
    obtain rfl : b = true := hbt.2 HU2.out
    have HF := Lib.hid (HQ11.out.keep hb12)
    clear hbt hb12
    go_wp2_with fail
    try go_ret
    exact ⟨rfl, HF.out.pp.g⟩
  subst he
  rw [if_pos rfl] at hga
  obtain ⟨b0, b1, b2, b3, b4, b5⟩ := HC1.out
  have hg := get_any u1 bd cb r w11 (HT.out.keep HQ11.out.pp.g) HV1.out HQ11.out.pp.hr HOK2.out
  simp only [Loc.val, HM.out] at hg
  have HG := Lib.hid hg
  have HGR : Hid (getV u1.v r = (gv2, e2)) := Lib.hid (by rw [HU1.out]; exact hga.symm)
  clear hg hga
  go_wp2_with fail
  (with_reducible refine HG.out.mono ?_)
  rintro e w12 ⟨u3, rfl, hu3, hv3, hb12⟩
  rw [HGR.out] at hu3 ⊢
  have hb1 := (HQ11.out.keep hb12).box _ u3 hv3
  obtain ⟨hq13, hv13, hc13, hl13, hbl⟩ := hb1
  have hv2b := (HV2.out.keep hb12).keep hbl
  have hc2b := HC2.out.through ((hb12.trans (hbl.mono hb12.size)).block _ hl11)
  have HU3 := Lib.hid hu3
  simp only [Loc.val]
  clear hu3 hv3 hb12 HG HQ11 HV1 HV2 HC1 HC2 b0 b1 b2 b3 b4 b5 hbl
  go_upto_region 11 with fail
  generalize hw9 : World.alloc w12 _ = w13 at hq13 hv13 hc13 hl13 hv2b hc2b ⊢
  generalize hx1 : w12.heap.size = x3 at hc13 hl13 ⊢
  clear hw9 hx1
  have HQ13 := Lib.hid hq13
  obtain ⟨b0, b1, b2, b3, b4, b5⟩ := hc2b
  obtain ⟨c0, c1, c2, c3, c4, c5⟩ := hc13
  have hal := alike_any u2 u3 w13 hv2b hv13
  simp only [Loc.val] at hal
  have HAL := Lib.hid hal
  have HEQ : Hid (u2.v = u3.v) := Lib.hid (by rw [HU2.out, HU3.out])
  clear hal hq13 hv13 hv2b
  go_wp2_with fail
  (with_reducible refine HAL.out.mono ?_)
  rintro e w14 ⟨b, rfl, hbt, hb14⟩
  obtain rfl : b = true := hbt.2 HEQ.out
  have HF := Lib.hid (HQ13.out.keep hb14)
  clear hbt hb14
  go_wp2_with fail
  try go_ret
  exact ⟨rfl, HF.out.pp.g⟩
end Go.Proofs.YtpjigecmnefnhaaDoor
