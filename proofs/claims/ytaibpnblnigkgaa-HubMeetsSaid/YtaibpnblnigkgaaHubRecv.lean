/-
  The contract of a hub's Recv. Conditions: the hub lies in memory; no client has seen more than there is.
-/
import Derived.Test.YtaibpnblnigkgaaHubType
import Derived.StillTailTactics
import Derived.Deep.DeepCutAuto
namespace Go.Proofs.Ytaibpnblnigkgaa
open Go.RowKit Gx
set_option maxRecDepth 100000

/-- a change over what there may be: may it be, and what is both -/
def OverOk (m : Mb) (l : List Part) : Prop := m.is = true → TrOk l m.l
def overL (m : Mb) (l : List Part) : List Part := if m.is = true then trL l m.l else l
def overM (m : Mb) (l : List Part) : List Part := if m.is = true then trR l m.l else m.l
/-- what receiving does -/
structure RecvStep (h : Hb) (n : Int) (c : Int) (h' : Hb) : Prop where
  out : ¬ h.In n → c ≠ 0
  no : c ≠ 0 → h' = h
  nil : ∀ (k : Nat) x, n = k → h.cls[k]? = some x → x.seen = h.log.length → c = 8
  own : ∀ (k : Nat) x (e : Lg), n = k → h.cls[k]? = some x → h.log[x.seen]? = some e → e.who = n → c = 0 ∧ h' = { h with cls := h.cls.set k { x with sent := Mb.none, seen := x.seen + 1 } }
  other : ∀ (k : Nat) x (e : Lg), n = k → h.cls[k]? = some x → h.log[x.seen]? = some e → e.who ≠ n →
    (c = 0 ↔ OverOk x.sent e.l ∧ OverOk x.held (overL x.sent e.l) ∧ apErr x.text.data.toList (overL x.held (overL x.sent e.l)) = 0) ∧
    (c = 0 → ∃ sent held : Mb, sent.is = x.sent.is ∧ held.is = x.held.is ∧ sent.l = overM x.sent e.l ∧ held.l = overM x.held (overL x.sent e.l) ∧
      h' = { h with cls := h.cls.set k ⟨bs (apT x.text.data.toList (overL x.held (overL x.sent e.l))), x.seen + 1, sent, held⟩ })
  ne : ∀ (k : Nat) x, n = k → h.cls[k]? = some x → x.seen ≠ h.log.length → c ≠ 8
def RecvP (B R C cap : Nat) (h : Hb) (n : Int) (w : World) (e : Ending) (w' : World) : Prop :=
  ∃ (c : Int) (h' : Hb), e = .returned (.int .i64 c) ∧ HM B R C cap h' w' ∧ RecvStep h n c h' ∧ Kp R C h.lv w w'
theorem Recv_no {B R C cap : Nat} {h : Hb} {w : World} (m : HM B R C cap h w) (n : Int) (hn : ¬ h.In n) :
    Calls Try.prog 18 #[.pointer (some ⟨R, 0, none⟩), .int .i64 n] w (RecvP B R C cap h n w) := by
  have H := Lib.hid (there_no m n hn)
  have HMM := Lib.hid m
  have HN := Lib.hid hn
  clear m hn
  go_enter Try.func18, Try.ntmps18
  go_wp2_with fail
  refine H.out.mono ?_
  rintro e w1 ⟨rfl, rfl⟩
  go_wp2
  go_ret
  have hout : ∀ (k : Nat) x, n = k → h.cls[k]? = some x → False := fun k x hk hx => HN.out ⟨by omega, by have := (List.getElem?_eq_some_iff.1 hx).1; omega⟩
  exact ⟨1, h, rfl, HMM.out, ⟨fun _ => by decide, fun _ => rfl, fun k x hk hx => (hout k x hk hx).elim, fun k x e hk hx => (hout k x hk hx).elim, fun k x e hk hx => (hout k x hk hx).elim, fun k x hk hx => (hout k x hk hx).elim⟩, Kp.refl _ _ _ _⟩
set_option maxHeartbeats 8000000 in
theorem Recv_none {B R C cap : Nat} {h : Hb} {w : World} (m : HM B R C cap h w) (k : Nat) (x : Cl) (hk : h.cls[k]? = some x) (hs : x.seen = h.log.length) (hll : h.log.length ≤ 100000) :
    Calls Try.prog 18 #[.pointer (some ⟨R, 0, none⟩), .int .i64 k] w (RecvP B R C cap h k w) := by
  have hlt := (List.getElem?_eq_some_iff.1 hk).1
  have hcap := m.cl
  have H := Lib.hid (there_yes m k hlt)
  have HMM := Lib.hid m
  have HK := Lib.hid hk
  have HIN : Hid (h.In k) := ⟨by omega, by omega⟩
  have hBw : B ≤ w.heap.size := Nat.le_of_lt (Nat.lt_of_le_of_lt m.br m.rlt)
  have HSM : Hid (∀ y, h.cls[k]? = some y → y = x) := Lib.hid fun y hy => (Option.some.inj (hk.symm.trans hy)).symm
  have i1 : (0 : Int) ≤ (k : Int) := by omega
  have i2 : (k : Int) < (h.cls.length : Int) := by omega
  clear m hk
  obtain ⟨-, c1, c2, cf⟩ := HMM.out.cells
  obtain ⟨lo, lc, hlv⟩ := HMM.out.lg
  rw [hlv] at c1
  obtain ⟨d0, d1, d2, d3, d4, d5, df⟩ := HMM.out.row.cell HK.out
  obtain ⟨N, hN⟩ : ∃ N, h.log.length = N := ⟨_, rfl⟩
  obtain ⟨S, hS⟩ : ∃ S, x.seen = S := ⟨_, rfl⟩
  rw [hN] at c1 hs hll
  rw [hs] at d1
  have HN := Lib.hid hN
  have HS := Lib.hid hs
  have u1 : ((N : Int) == (N : Int)) = true := by simp
  clear hN hS hs d0 d2 d3 d4 d5 df cf
  go_enter Try.func18, Try.ntmps18
  go_wp2_with fail
  refine H.out.mono ?_
  rintro e w1 ⟨rfl, rfl⟩
  go_wp2_with fail
  go_quiet (fail)
  go_wp2_with fail
  try go_ret
  refine ⟨8, h, rfl, HMM.out.below (Gx.drewN_below _ _ _), ⟨fun hn => absurd HIN.out hn, fun _ => rfl, fun k' y hk' hy hs => rfl, fun k' y e hk' hy he hw => ?_, fun k' y e hk' hy he hw => ?_, fun k' y hk' hy hne => ?_⟩, (Kp.refl _ _ _ _).on (Gx.drewN_below _ _ _)⟩
  rotate_left
  rotate_left
  · exfalso
    obtain rfl : k = k' := by omega
    obtain rfl := HSM.out y hy
    exact hne (by rw [HS.out, HN.out])
  all_goals
    exfalso
    obtain rfl : k = k' := by omega
    obtain rfl := HSM.out y hy
    have := (List.getElem?_eq_some_iff.1 he).1
    have h1 := HS.out
    have h2 := HN.out
    omega
set_option maxHeartbeats 8000000 in
theorem Recv_own {B R C cap : Nat} {h : Hb} {w : World} (m : HM B R C cap h w) (k : Nat) (x : Cl) (hk : h.cls[k]? = some x) (e : Lg) (he : h.log[x.seen]? = some e) (hw : e.who = k) (hll : h.log.length ≤ 100000) :
    Calls Try.prog 18 #[.pointer (some ⟨R, 0, none⟩), .int .i64 k] w (RecvP B R C cap h k w) := by
  have hlt := (List.getElem?_eq_some_iff.1 hk).1
  have hcap := m.cl
  have H := Lib.hid (there_yes m k hlt)
  have HMM := Lib.hid m
  have HK := Lib.hid hk
  have HIN : Hid (h.In k) := ⟨by omega, by omega⟩
  have hBw : B ≤ w.heap.size := Nat.le_of_lt (Nat.lt_of_le_of_lt m.br m.rlt)
  have HSM : Hid (∀ y, h.cls[k]? = some y → y = x) := Lib.hid fun y hy => (Option.some.inj (hk.symm.trans hy)).symm
  have i1 : (0 : Int) ≤ (k : Int) := by omega
  have i2 : (k : Int) < (h.cls.length : Int) := by omega
  clear m hk
  obtain ⟨-, c1, c2, cf⟩ := HMM.out.cells
  obtain ⟨lo, lc, hlv⟩ := HMM.out.lg
  rw [hlv] at c1
  obtain ⟨d0, d1, d2, d3, d4, d5, df⟩ := HMM.out.row.cell HK.out
  obtain ⟨N, hN⟩ : ∃ N, h.log.length = N := ⟨_, rfl⟩
  obtain ⟨S, hS⟩ : ∃ S, x.seen = S := ⟨_, rfl⟩
  have hse : S < N := by rw [← hN, ← hS]; exact (List.getElem?_eq_some_iff.1 he).1
  obtain ⟨g, vc, hlv2, hnc, hgl, g0, g1⟩ := HMM.out.logCell he
  rw [hlv] at hlv2
  obtain ⟨rfl, -, rfl⟩ : lo = some ⟨g, 0, none⟩ ∧ h.log.length = h.log.length ∧ lc = vc := by simpa using hlv2
  rw [hS] at d1 g0 g1
  rw [hN] at c1 hnc hll
  have HE := Lib.hid he
  have HN := Lib.hid hN
  have HS := Lib.hid hS
  have j1 : (0 : Int) ≤ (S : Int) := by omega
  have j2 : (S : Int) < (N : Int) := by omega
  have u1 : ((S : Int) == (N : Int)) = false := by
    have : ¬ (S : Int) = (N : Int) := by omega
    simpa using this
  have u1n : (S == N) = false := by
    have : ¬ S = N := by omega
    simpa using this
  obtain ⟨LN, hLN⟩ : ∃ LN, e.l.length = LN := ⟨_, rfl⟩
  rw [hLN] at g1
  have HLN := Lib.hid hLN
  clear hN hS he hlv2 hLN
  have HW := Lib.hid hw
  go_enter Try.func18, Try.ntmps18
  go_wp2_with fail
  refine H.out.mono ?_
  rintro e w1 ⟨rfl, rfl⟩
  go_wp2_with fail
  go_quiet (fail)
  go_wp2_with fail
  have HM1 := Lib.hid (HMM.out.below (Gx.drewN_below w1 nq _))
  have HB1 := Lib.hid ((Kp.refl R C h.lv w1).on (Gx.drewN_below w1 nq _))
  have b1 : (w1.drewN nq).cell? ⟨R, 1, none⟩ = _ := c1
  have b2 : (w1.drewN nq).cell? ⟨C, k * 6 + 1, none⟩ = _ := d1
  have b3 : (w1.drewN nq).cell? ⟨g, S * 2, none⟩ = _ := g0
  have b4 : (w1.drewN nq).cell? ⟨g, S * 2 + 1, none⟩ = _ := g1
  clear c1 c2 d0 d1 d2 d3 d4 d5 df cf g0 g1 H
  obtain ⟨wd, hwd⟩ : ∃ wd : World, w1.drewN nq = wd := ⟨_, rfl⟩
  rw [hwd] at HM1 HB1 b1 b2 b3 b4 ⊢
  clear hwd
  have hRl := HM1.out.rlt
  have hCl := HM1.out.row.lt
  have hgl2 : g < wd.heap.size := by
    have := (HM1.out.own.lt g (by rw [hlv]; rfl)).2
    exact this
  have ht6 : ∀ o, (wd.alloc o).cell? ⟨R, 1, none⟩ = some (.slice (some ⟨g, 0, none⟩) N lc) ∧ (wd.alloc o).cell? ⟨C, k * 6 + 1, none⟩ = some (.int .i64 S) ∧ (wd.alloc o).cell? ⟨g, S * 2, none⟩ = some (.int .i64 e.who) ∧ (wd.alloc o).cell? ⟨g, S * 2 + 1, none⟩ = some (.slice e.ad LN e.cap) := fun o =>
    ⟨(World.cell?_alloc_lt _ _ _ hRl).trans b1, (World.cell?_alloc_lt _ _ _ hCl).trans b2, (World.cell?_alloc_lt _ _ _ hgl2).trans b3, (World.cell?_alloc_lt _ _ _ hgl2).trans b4⟩
  go_region_held3 (fun w' => w'.cell? ⟨R, 1, none⟩ = some (.slice (some ⟨g, 0, none⟩) N lc) ∧ w'.cell? ⟨C, k * 6 + 1, none⟩ = some (.int .i64 S) ∧ w'.cell? ⟨g, S * 2, none⟩ = some (.int .i64 e.who) ∧ w'.cell? ⟨g, S * 2 + 1, none⟩ = some (.slice e.ad LN e.cap)) (first | exact ⟨b1, b2, b3, b4⟩ | exact ht6 _ | go_keep) (fail)
  clear ht6 b1 b2 b3 b4
  have HM6 := Lib.hid (HM1.out.below (((Below.refl wd.heap.size wd).alloc (Nat.le_refl _) (.cells #[.int .i64 k, .slice e.ad LN e.cap] 51)).trans (Gx.drewN_below _ 1 _)))
  have HB6 := Lib.hid ((HB1.out.alloc (.cells #[.int .i64 k, .slice e.ad LN e.cap] 51)).on (Gx.drewN_below _ 1 _))
  have ht : ((wd.alloc (.cells #[.int .i64 k, .slice e.ad LN e.cap] 51)).drewN 1).heap[wd.heap.size]? = some (.cells #[.int .i64 k, .slice e.ad LN e.cap] 51) := heap_alloc_new wd _
  have HT6 := Lib.hid ht
  clear ht
  obtain ⟨w6, hw6⟩ : ∃ w6 : World, (wd.alloc (.cells #[.int .i64 k, .slice e.ad LN e.cap] 51)).drewN 1 = w6 := ⟨_, rfl⟩
  change Exit.then _ _ _ _ ((wd.alloc (.cells #[.int .i64 k, .slice e.ad LN e.cap] 51)).drewN 1)
  rw [hw6] at HM6 HB6 HT6 ⊢
  clear hw6
  obtain ⟨x0, x1, -⟩ := two_cells HT6.out
  clear HM1 HB1
  obtain ⟨d0, d1, d2, d3, d4, d5, df⟩ := HM6.out.row.cell HK.out
  have df2 := df (k * 6 + 2)
  have df3 := df (k * 6 + 3)
  have q1 : ((k : Int) == (k : Int)) = true := by simp
  go_upto_region 9 with fail
  have r1 := (HM6.out.row.store HK.out 2 (.bool false) (by decide) { x with sent := { x.sent with is := false } } rfl).store (get_set HK.out) 3 (.slice none 0 0) (by decide) { x with sent := Mb.none } rfl
  rw [set_set] at r1
  have hg1 := (grown_set2 w6 C (k * 6 + 2) (.bool false)).trans (grown_set2 _ C (k * 6 + 3) (.slice none 0 0))
  generalize (w6.setCell ⟨C, k * 6 + 2, none⟩ (.bool false)).setCell ⟨C, k * 6 + 3, none⟩ (.slice none 0 0) = w7 at r1 hg1 ⊢
  obtain ⟨-, e1, -, -, -, -, ef⟩ := r1.cell (get_set HK.out)
  have ef1 := ef (k * 6 + 1)
  simp only at e1
  rw [HS.out] at e1
  have r2 := r1.store (get_set HK.out) 1 (.int .i64 ((S : Int) + 1)) (by decide) { x with sent := Mb.none, seen := S + 1 } (by simp [Cl.cells])
  rw [set_set] at r2
  have hg2 := hg1.trans (grown_set2 w7 C (k * 6 + 1) (.int .i64 ((S : Int) + 1)))
  have HR2 := Lib.hid r2
  have HG2 := Lib.hid hg2
  clear r1 r2 hg1 hg2 ef df d0 d1 d2 d3 d4 d5 df2 df3 x0 x1
  go_wp2_with fail
  try go_ret
  have hcl : HM B R C cap { h with cls := h.cls.set k { x with sent := Mb.none, seen := S + 1 } } (w7.setCell ⟨C, k * 6 + 1, none⟩ (.int .i64 ((S : Int) + 1))) :=
    HM6.out.client HR2.out HG2.out (.inl ⟨PR.nil _ _ _ (fun _ => rfl) (show (0 : Nat) ≤ 9223372036854775807 from Nat.zero_le _), fun a ha => by cases ha⟩) (.inr (.inr ⟨x, List.mem_of_getElem? HK.out, .inr rfl⟩))
  refine ⟨0, _, rfl, hcl, ⟨fun hn => absurd HIN.out hn, fun h => absurd rfl h, fun k' y hk' hy hs => ?_, fun k' y e' hk' hy he' hw' => ?_, fun k' y e' hk' hy he' hw' => ?_, fun _ _ _ _ _ => by decide⟩, HB6.out.row HG2.out (fun k e => .inl (.inr (.inl (Option.some.inj e).symm)))⟩
  all_goals
    obtain rfl : k = k' := by omega
    obtain rfl := HSM.out y hy
  · exfalso
    have h1 := HS.out
    have h2 := HN.out
    omega
  · exact ⟨rfl, by rw [HS.out]⟩
  · exfalso
    obtain rfl : e = e' := Option.some.inj (HE.out.symm.trans he')
    exact hw' HW.out
end Go.Proofs.Ytaibpnblnigkgaa
