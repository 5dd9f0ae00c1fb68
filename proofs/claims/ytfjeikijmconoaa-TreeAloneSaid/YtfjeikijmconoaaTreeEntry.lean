/-
  The contract of the tree reader's entry. Conditions: as XTree2; the value's contract.
-/
import Derived.Test.YtfjeikijmconoaaTreeKids
import Derived.Deep.DeepCutAuto
namespace Go.Proofs.Ytfjeikijmconoaa
open Go.RowKit Gx
set_option maxRecDepth 100000

/-- the value's contract at a depth -/
def ValOk (R : Nat) (ta : Option Addr) (tc : Nat) (S : ByteArray) (X : TS) (deep : Int) (val : PS → PS × Nd) : Prop :=
  ∀ (s : PS) (w : World), RS w R ta tc S X s → s.bad = 0 → s.i ≤ X.T.length → Calls Try.prog 18 #[.pointer (some ⟨R, 0, none⟩), .int .i64 deep] w (NP R ta tc S X (val s) w)
/-- entry's state in memory, behind the key -/
structure ER (w : World) (R : Nat) (ta : Option Addr) (tc : Nat) (S : ByteArray) (X : TS) (P : Nat) (key : Nd) (ks : Value) (u : PS) (wx : World) : Prop where
  rs : RS wx R ta tc S X u
  res : wx.heap[w.heap.size]? = some (.cells #[.int .i64 0, .int .i64 0, .int .i64 0, .slice none 0 0] 34)
  kb : wx.heap[P]? = some (.cells #[.int .i64 key.k, .int .i64 key.a, .int .i64 key.b, ks] 34)
  kids : KidsAt wx (fun b => w.heap.size < b) key.kids ks
  lo : w.heap.size < P
  gr : w.grownBy wx (some R)
section
variable {w : World} {R : Nat} {ta : Option Addr} {tc : Nat} {S : ByteArray} {X : TS} {P : Nat} {key : Nd} {ks : Value} {u u2 : PS} {wx w2 : World}
theorem ER.hi (h : ER w R ta tc S X P key ks u wx) : P < wx.heap.size := (Array.getElem?_eq_some_iff.1 h.kb).1
theorem ER.grow (hR : R < w.heap.size) (h : ER w R ta tc S X P key ks u wx) (hr : RS w2 R ta tc S X u2) (hg : wx.grownBy w2 (some R)) : ER w R ta tc S X P key ks u2 w2 := by
  have hs := h.hi
  have hl := h.lo
  exact ⟨hr, (hg.block _ (by omega) (fun e => by have := Option.some.inj e; omega)).trans h.res, (hg.block _ (by omega) (fun e => by have := Option.some.inj e; omega)).trans h.kb, h.kids.grow hg (fun b e => by have := Option.some.inj e; omega), hl, h.gr.trans hg⟩
theorem ER.drewN (hR : R < w.heap.size) (h : ER w R ta tc S X P key ks u wx) (n : Nat) : ER w R ta tc S X P key ks u (wx.drewN n) :=
  h.grow hR (h.rs.drewN n) (grown_drew _ _ _)
theorem ER.inc (hR : R < w.heap.size) (h : ER w R ta tc S X P key ks u wx) : ER w R ta tc S X P key ks u.inc (wx.setCell ⟨R, 2, none⟩ (.int .i64 ((u.i : Int) + 1))) := by
  have h1 := h.rs.set2 (u.i + 1)
  rw [show ((u.i + 1 : Nat) : Int) = (u.i : Int) + 1 by omega] at h1
  exact h.grow hR h1 (grown_set _ R 2 _)
/-- the key has come -/
theorem ER.start {s0 : PS} {w1 : World} (hR : R < w.heap.size) (hg : (w.alloc (.cells #[.int .i64 0, .int .i64 0, .int .i64 0, .slice none 0 0] 34)).grownBy w1 (some R)) (hr : RS w1 R ta tc S X s0)
    (hk : KidsAt w1 (fun b => (w.alloc (.cells #[.int .i64 0, .int .i64 0, .int .i64 0, .slice none 0 0] 34)).heap.size ≤ b) key.kids ks) :
    ER w R ta tc S X w1.heap.size key ks s0 (w1.alloc (.cells #[.int .i64 key.k, .int .i64 key.a, .int .i64 key.b, ks] 34)) := by
  have hs := hg.size
  rw [World.size_alloc] at hs
  refine ⟨hr.alloc _, ?_, heap_alloc_last _ _, (hk.weak (fun b hb _ => by rw [World.size_alloc] at hb; omega)).grow (grown_alloc w1 _ none) (fun b e => by simp at e), by omega, ((grown_alloc w _ _).trans hg).trans (grown_alloc _ _ _)⟩
  exact (heap_alloc_old w1 _ (by omega)).trans ((hg.block _ (by rw [World.size_alloc]; omega) (fun e => by have := Option.some.inj e; omega)).trans (heap_alloc_last w _))
/-- the two kids are laid down, and the node is handed back -/
theorem ER.fin {s0 : PS} {nd : Nd} {vs : Value} {w5 w6 : World} (h0 : RS w R ta tc S X s0) (h : ER w R ta tc S X P key ks u w5) (hn : KidsAt w5 (fun b => w.heap.size < b) nd.kids vs) (hg : w5.grownBy w6 (some w.heap.size)) (hz : w6.heap.size = w5.heap.size) :
    KidsAt ((w6.alloc (.cells #[.int .i64 nd.k, .int .i64 nd.a, .int .i64 nd.b, vs] 34)).alloc (.cells #[.int .i64 key.k, .int .i64 key.a, .int .i64 key.b, ks, .int .i64 nd.k, .int .i64 nd.a, .int .i64 nd.b, vs] 34)) (fun b => w.heap.size ≤ b) [key, nd] (.slice (some ⟨w5.heap.size + 1, 0, none⟩) 2 2) ∧
    RS ((w6.alloc (.cells #[.int .i64 nd.k, .int .i64 nd.a, .int .i64 nd.b, vs] 34)).alloc (.cells #[.int .i64 key.k, .int .i64 key.a, .int .i64 key.b, ks, .int .i64 nd.k, .int .i64 nd.a, .int .i64 nd.b, vs] 34)) R ta tc S X u ∧
    w.grownBy ((w6.alloc (.cells #[.int .i64 nd.k, .int .i64 nd.a, .int .i64 nd.b, vs] 34)).alloc (.cells #[.int .i64 key.k, .int .i64 key.a, .int .i64 key.b, ks, .int .i64 nd.k, .int .i64 nd.a, .int .i64 nd.b, vs] 34)) (some R) := by
  have hs := h.hi
  have hl := h.lo
  have hr6 := RS.other h0 h.rs hg (Nat.le_refl _)
  have hg6 := grown_fresh h.gr hg (Nat.le_refl _)
  have gb : ∀ {kids : List Nd} {v : Value}, KidsAt w5 (fun b => w.heap.size < b) kids v → KidsAt ((w6.alloc (.cells #[.int .i64 nd.k, .int .i64 nd.a, .int .i64 nd.b, vs] 34)).alloc (.cells #[.int .i64 key.k, .int .i64 key.a, .int .i64 key.b, ks, .int .i64 nd.k, .int .i64 nd.a, .int .i64 nd.b, vs] 34)) (fun b => w.heap.size ≤ b) kids v := fun hk =>
    ((hk.grow hg (fun b e hb => by have := Option.some.inj e; omega)).weak (fun b hb _ => by omega)).grow ((grown_alloc _ _ none).trans (grown_alloc _ _ none)) (fun b e => by simp at e)
  have hc8 : ∀ j u, ([.int .i64 key.k, .int .i64 key.a, .int .i64 key.b, ks, .int .i64 nd.k, .int .i64 nd.a, .int .i64 nd.b, vs] : List Value)[j]? = some u → ((w6.alloc (.cells #[.int .i64 nd.k, .int .i64 nd.a, .int .i64 nd.b, vs] 34)).alloc (.cells #[.int .i64 key.k, .int .i64 key.a, .int .i64 key.b, ks, .int .i64 nd.k, .int .i64 nd.a, .int .i64 nd.b, vs] 34)).cell? ⟨w5.heap.size + 1, j, none⟩ = some u := fun j u hj => by
    have h1 := World.cell?_alloc_mark (w6.alloc (.cells #[.int .i64 nd.k, .int .i64 nd.a, .int .i64 nd.b, vs] 34)) #[.int .i64 key.k, .int .i64 key.a, .int .i64 key.b, ks, .int .i64 nd.k, .int .i64 nd.a, .int .i64 nd.b, vs] 34 (0, 0) j
    rw [World.size_alloc, hz] at h1
    exact h1.trans (by simpa using hj)
  refine ⟨.row [key, nd] (fun i => if i = 0 then ks else vs) (w5.heap.size + 1) 2 (by simp) (by omega) (by simp only [World.size_alloc]; omega) (fun i n hi => ?_) (fun i n hi => ?_), (hr6.alloc _).alloc _, hg6.trans ((grown_alloc _ _ _).trans (grown_alloc _ _ _))⟩
  · match i, hi with
    | 0, hi =>
      have : key = n := by simpa using hi
      subst this
      exact ⟨hc8 0 _ rfl, hc8 1 _ rfl, hc8 2 _ rfl, hc8 3 _ rfl⟩
    | 1, hi =>
      have : nd = n := by simpa using hi
      subst this
      exact ⟨hc8 4 _ rfl, hc8 5 _ rfl, hc8 6 _ rfl, hc8 7 _ rfl⟩
    | i + 2, hi => simp at hi
  · match i, hi with
    | 0, hi =>
      have : key = n := by simpa using hi
      subst this
      exact gb h.kids
    | 1, hi =>
      have : nd = n := by simpa using hi
      subst this
      exact gb hn
    | i + 2, hi => simp at hi
/-- nothing is handed back -/
theorem ER.none {s0 : PS} {w7 : World} (h0 : RS w R ta tc S X s0) (h : ER w R ta tc S X P key ks u w2) (hg : w2.grownBy w7 (some w.heap.size)) : RS w7 R ta tc S X u ∧ w.grownBy w7 (some R) :=
  ⟨RS.other h0 h.rs hg (Nat.le_refl _), grown_fresh h.gr hg (Nat.le_refl _)⟩
end
theorem entry_none (X : TS) (val : PS → PS × Nd) (s0 u u2 : PS) (hu : (leafS X 2 s0).1.skip X = u) (h2 : colonS X u = u2) (hb : u2.bad ≠ 0) : entryS X val s0 = (u2, .none) := by
  unfold entryS
  rw [hu, h2, if_pos hb]
theorem entry_some (X : TS) (val : PS → PS × Nd) (s0 u : PS) (key : Nd) (hu : (leafS X 2 s0).1.skip X = u) (hk : (leafS X 2 s0).2 = key) (h2 : colonS X u = u) (hb : u.bad = 0) : entryS X val s0 = ((val u.inc).1, .mk 4 key.a (val u.inc).2.b [key, (val u.inc).2]) := by
  unfold entryS
  rw [hu, hk, h2, if_neg (fun h => h hb)]

set_option maxHeartbeats 8000000 in
theorem entry_any (deep : Int) (val : PS → PS × Nd) (R : Nat) (ta : Option Addr) (tc : Nat) (S : ByteArray) (X : TS) (hv : ValOk R ta tc S X deep val) (s : PS) (w : World) (h : RS w R ta tc S X s) (hT : X.T.length ≤ 20000)
    (hb0 : s.bad = 0) (hi : s.i ≤ X.T.length) (hpos : ∀ j, j < X.T.length → X.pos j < X.l.length) :
    Calls Try.prog 28 #[.pointer (some ⟨R, 0, none⟩), .int .i64 deep] w (NP R ta tc S X (entryS X val s) w) := by
  have hRl := h.lt
  have H0 := Lib.hid h
  have HL := Lib.hid (leaf_any 2 R ta tc S X s _ (h.alloc (.cells #[.int .i64 0, .int .i64 0, .int .i64 0, .slice none 0 0] 34)) hT (by omega))
  have hlf := leaf_fine X 2 0 s hb0 hi
  dsimp only at hlf
  obtain ⟨s1, hs1⟩ : ∃ s1, (leafS X 2 s).1 = s1 := ⟨_, rfl⟩
  obtain ⟨key, hkey⟩ : ∃ key, (leafS X 2 s).2 = key := ⟨_, rfl⟩
  obtain ⟨u, hu⟩ : ∃ u, s1.skip X = u := ⟨_, rfl⟩
  obtain ⟨mv, hmv⟩ : ∃ mv : Int, ((u.mark X).toNat : Int) = mv := ⟨_, rfl⟩
  have hui : u.i ≤ X.T.length := by rw [← hu, ← hs1]; exact (skip_fine X _).2.1 hlf.2.1
  unfold NP at HL
  rw [hs1, hkey] at HL
  rw [hs1] at hlf
  have HS1 := Lib.hid (show (leafS X 2 s).1.skip X = u by rw [hs1]; exact hu)
  have hs1i : s1.i ≤ 100000 := by omega
  have HU := Lib.hid hu
  have HKEY := Lib.hid hkey
  have HV := Lib.hid hv
  have HPOS := Lib.hid hpos
  have HMV := Lib.hid hmv
  clear h hb0 hlf hs1 hkey hu hv hpos
  go_enter Try.func28, Try.ntmps28
  go_wp2_with fail
  refine HL.out.mono ?_
  rintro e w1 ⟨ks, rfl, hk1, hr1, hg1⟩
  obtain ⟨ko, kc, rfl⟩ := hk1.form
  have HE1 := Lib.hid (ER.start hRl hg1 hr1 hk1)
  have hlo : w.heap.size < w1.heap.size := HE1.out.lo
  clear hk1 hr1 hg1 HL
  go_wp2_with fail
  refine (mark_of u mv R ta tc S X s1 _ HE1.out.rs hT hs1i HPOS.out HU.out HMV.out).mono ?_
  rintro e w2 ⟨rfl, hr2, hg2⟩
  have HE2 := Lib.hid (HE1.out.grow hRl hr2 hg2)
  clear hr2 hg2 HE1
  obtain ⟨c0, c1, c2, c3, c4, fz⟩ := HE2.out.rs.cells
  obtain ⟨b0, b1, b2, b3, bf⟩ := node_cells HE2.out.res
  have bf0 := bf 0
  have bf1 := bf 1
  have bf2 := bf 2
  have bf3 := bf 3
  clear bf
  by_cases hbd : u.bad = 0
  · have t2 : (u.bad == 0) = true := by simpa using hbd
    by_cases hgo : u.mark X = 58 ∨ u.mark X = 61
    · have hcol : colonS X u = u := by
        unfold colonS
        rw [if_neg]
        rintro ⟨-, h1, h2⟩
        exact hgo.elim h1 h2
      have HEN := Lib.hid (entry_some X val s u key HS1.out HKEY.out hcol hbd)
      have t3 : (u.bad != 0) = false := by simpa using hbd
      have hui2 : u.inc.i ≤ X.T.length := by
        show u.i + 1 ≤ _
        exact hgo.elim (fun h => mark_lt h (by decide)) (fun h => mark_lt h (by decide))
      rcases hgo with hgo | hgo
      · have e5 : mv = 58 := by rw [← hmv, hgo]; rfl
        have t5 : (mv != 58) = false := by rw [e5]; rfl
        clear hgo e5 hmv hcol
        go_wp2_with fail
        refine (HV.out u.inc _ (HE2.out.inc hRl).rs hbd hui2).mono ?_
        rintro e w5 ⟨vs, rfl, hk5, hr5, hg5⟩
        have hlo4 : w.heap.size < (w2.setCell ⟨R, 2, none⟩ (.int .i64 ((u.i : Int) + 1))).heap.size := by have := (HE2.out.inc hRl).hi; omega
        have HE5 := Lib.hid ((HE2.out.inc hRl).grow hRl hr5 hg5)
        have HK5 := Lib.hid (hk5.weak (C := fun b => w.heap.size < b) (fun b hb _ => by omega))
        obtain ⟨vo, vc, rfl⟩ := hk5.form
        clear hr5 hg5 hlo4 hk5 b0 b1 b2 b3 bf0 bf1 bf2 bf3 c0 c1 c2 c3 c4 fz
        obtain ⟨b0, b1, b2, b3, bf⟩ := node_cells HE5.out.res
        have bf0 := bf 0
        have bf1 := bf 1
        have bf2 := bf 2
        have bf3 := bf 3
        clear bf
        obtain ⟨k0, k1, k2, k3, -⟩ := node_cells HE5.out.kb
        have hhi := HE5.out.hi
        have hhi2 : w.heap.size < w5.heap.size := by omega
        obtain ⟨nd, hnd⟩ : ∃ nd, (val u.inc).2 = nd := ⟨_, rfl⟩
        obtain ⟨u5, hu5⟩ : ∃ u5, (val u.inc).1 = u5 := ⟨_, rfl⟩
        rw [hnd] at HK5 HEN ⊢
        rw [hu5] at HE5 HEN
        clear hnd hu5
        go_wp2_with fail
        obtain ⟨h7, g7⟩ := store4 HE5.out.res (.int .i64 4) (.int .i64 key.a) (.int .i64 nd.b) (.slice (some ⟨w5.heap.size + 1, 0, none⟩) 2 2)
        have hz7 : ((((w5.setCell ⟨w.heap.size, 0, none⟩ (.int .i64 4)).setCell ⟨w.heap.size, 1, none⟩ (.int .i64 key.a)).setCell ⟨w.heap.size, 2, none⟩ (.int .i64 nd.b)).setCell ⟨w.heap.size, 3, none⟩ (.slice (some ⟨w5.heap.size + 1, 0, none⟩) 2 2)).heap.size = w5.heap.size := by simp [World.setCell]
        generalize ((((w5.setCell ⟨w.heap.size, 0, none⟩ (.int .i64 4)).setCell ⟨w.heap.size, 1, none⟩ (.int .i64 key.a)).setCell ⟨w.heap.size, 2, none⟩ (.int .i64 nd.b)).setCell ⟨w.heap.size, 3, none⟩ (.slice (some ⟨w5.heap.size + 1, 0, none⟩) 2 2)) = w6 at h7 g7 hz7 ⊢
        obtain ⟨f0, f1, f2⟩ := HE5.out.fin H0.out HK5.out g7 hz7
        have h9 := (heap_alloc_old (w6.alloc (.cells #[.int .i64 nd.k, .int .i64 nd.a, .int .i64 nd.b, .slice vo nd.kids.length vc] 34)) (.cells #[.int .i64 key.k, .int .i64 key.a, .int .i64 key.b, .slice ko key.kids.length kc, .int .i64 nd.k, .int .i64 nd.a, .int .i64 nd.b, .slice vo nd.kids.length vc] 34) (by rw [World.size_alloc]; omega)).trans ((heap_alloc_old w6 _ (by omega)).trans h7)
        clear b0 b1 b2 b3 bf0 bf1 bf2 bf3 k0 k1 k2 k3
        generalize (w6.alloc (.cells #[.int .i64 nd.k, .int .i64 nd.a, .int .i64 nd.b, .slice vo nd.kids.length vc] 34)).alloc (.cells #[.int .i64 key.k, .int .i64 key.a, .int .i64 key.b, .slice ko key.kids.length kc, .int .i64 nd.k, .int .i64 nd.a, .int .i64 nd.b, .slice vo nd.kids.length vc] 34) = w9 at h9 f0 f1 f2 ⊢
        obtain ⟨n0, n1, n2, n3, -⟩ := node_cells h9
        exact bodyPost_ret (v := .agg #[.int .i64 4, .int .i64 key.a, .int .i64 nd.b, .slice (some ⟨w5.heap.size + 1, 0, none⟩) 2 2]) (by simp [results, Try.results28, go_sem, n0, n1, n2, n3]) rfl
          (by rw [HEN.out]; exact ⟨_, rfl, f0, f1, f2⟩)
      · have e5 : mv = 61 := by rw [← hmv, hgo]; rfl
        have t5 : (mv != 58) = true := by rw [e5]; rfl
        have t6 : (mv != 61) = false := by rw [e5]; rfl
        clear hgo e5 hmv hcol
        go_wp2_with fail
        refine (HV.out u.inc _ (HE2.out.inc hRl).rs hbd hui2).mono ?_
        rintro e w5 ⟨vs, rfl, hk5, hr5, hg5⟩
        have hlo4 : w.heap.size < (w2.setCell ⟨R, 2, none⟩ (.int .i64 ((u.i : Int) + 1))).heap.size := by have := (HE2.out.inc hRl).hi; omega
        have HE5 := Lib.hid ((HE2.out.inc hRl).grow hRl hr5 hg5)
        have HK5 := Lib.hid (hk5.weak (C := fun b => w.heap.size < b) (fun b hb _ => by omega))
        obtain ⟨vo, vc, rfl⟩ := hk5.form
        clear hr5 hg5 hlo4 hk5 b0 b1 b2 b3 bf0 bf1 bf2 bf3 c0 c1 c2 c3 c4 fz
        obtain ⟨b0, b1, b2, b3, bf⟩ := node_cells HE5.out.res
        have bf0 := bf 0
        have bf1 := bf 1
        have bf2 := bf 2
        have bf3 := bf 3
        clear bf
        obtain ⟨k0, k1, k2, k3, -⟩ := node_cells HE5.out.kb
        have hhi := HE5.out.hi
        have hhi2 : w.heap.size < w5.heap.size := by omega
        obtain ⟨nd, hnd⟩ : ∃ nd, (val u.inc).2 = nd := ⟨_, rfl⟩
        obtain ⟨u5, hu5⟩ : ∃ u5, (val u.inc).1 = u5 := ⟨_, rfl⟩
        rw [hnd] at HK5 HEN ⊢
        rw [hu5] at HE5 HEN
        clear hnd hu5
        go_wp2_with fail
        obtain ⟨h7, g7⟩ := store4 HE5.out.res (.int .i64 4) (.int .i64 key.a) (.int .i64 nd.b) (.slice (some ⟨w5.heap.size + 1, 0, none⟩) 2 2)
        have hz7 : ((((w5.setCell ⟨w.heap.size, 0, none⟩ (.int .i64 4)).setCell ⟨w.heap.size, 1, none⟩ (.int .i64 key.a)).setCell ⟨w.heap.size, 2, none⟩ (.int .i64 nd.b)).setCell ⟨w.heap.size, 3, none⟩ (.slice (some ⟨w5.heap.size + 1, 0, none⟩) 2 2)).heap.size = w5.heap.size := by simp [World.setCell]
        generalize ((((w5.setCell ⟨w.heap.size, 0, none⟩ (.int .i64 4)).setCell ⟨w.heap.size, 1, none⟩ (.int .i64 key.a)).setCell ⟨w.heap.size, 2, none⟩ (.int .i64 nd.b)).setCell ⟨w.heap.size, 3, none⟩ (.slice (some ⟨w5.heap.size + 1, 0, none⟩) 2 2)) = w6 at h7 g7 hz7 ⊢
        obtain ⟨f0, f1, f2⟩ := HE5.out.fin H0.out HK5.out g7 hz7
        have h9 := (heap_alloc_old (w6.alloc (.cells #[.int .i64 nd.k, .int .i64 nd.a, .int .i64 nd.b, .slice vo nd.kids.length vc] 34)) (.cells #[.int .i64 key.k, .int .i64 key.a, .int .i64 key.b, .slice ko key.kids.length kc, .int .i64 nd.k, .int .i64 nd.a, .int .i64 nd.b, .slice vo nd.kids.length vc] 34) (by rw [World.size_alloc]; omega)).trans ((heap_alloc_old w6 _ (by omega)).trans h7)
        clear b0 b1 b2 b3 bf0 bf1 bf2 bf3 k0 k1 k2 k3
        generalize (w6.alloc (.cells #[.int .i64 nd.k, .int .i64 nd.a, .int .i64 nd.b, .slice vo nd.kids.length vc] 34)).alloc (.cells #[.int .i64 key.k, .int .i64 key.a, .int .i64 key.b, .slice ko key.kids.length kc, .int .i64 nd.k, .int .i64 nd.a, .int .i64 nd.b, .slice vo nd.kids.length vc] 34) = w9 at h9 f0 f1 f2 ⊢
        obtain ⟨n0, n1, n2, n3, -⟩ := node_cells h9
        exact bodyPost_ret (v := .agg #[.int .i64 4, .int .i64 key.a, .int .i64 nd.b, .slice (some ⟨w5.heap.size + 1, 0, none⟩) 2 2]) (by simp [results, Try.results28, go_sem, n0, n1, n2, n3]) rfl
          (by rw [HEN.out]; exact ⟨_, rfl, f0, f1, f2⟩)
    · have n58 : ¬ mv = 58 := fun e => hgo (.inl (UInt8.toNat_inj.1 (by have h2 := hmv.trans e; exact_mod_cast h2)))
      have n61 : ¬ mv = 61 := fun e => hgo (.inr (UInt8.toNat_inj.1 (by have h2 := hmv.trans e; exact_mod_cast h2)))
      have t5 : (mv != 58) = true := by simpa using n58
      have t6 : (mv != 61) = true := by simpa using n61
      obtain ⟨u2, hu2⟩ : ∃ u2, u.fail X 4 = u2 := ⟨_, rfl⟩
      have hcol : colonS X u = u2 := by
        unfold colonS
        rw [if_pos ⟨hbd, fun h => hgo (.inl h), fun h => hgo (.inr h)⟩, hu2]
      have hu2b : u2.bad ≠ 0 := by rw [← hu2]; exact fail_bad X 4 (by decide) u
      have HEN := Lib.hid (entry_none X val s u u2 HS1.out hcol hu2b)
      have t3 : (u2.bad != 0) = true := by simpa using hu2b
      have HFL := Lib.hid (fail_any 4 R ta tc S X u _ HE2.out.rs hT (by omega))
      unfold RP at HFL
      rw [hu2] at HFL
      clear hu2b hcol hgo n58 n61 hu2 hmv
      go_wp2_with fail
      refine HFL.out.mono ?_
      rintro e w3 ⟨rfl, hr3, hg3⟩
      have HE3 := Lib.hid (HE2.out.grow hRl hr3 hg3)
      clear hr3 hg3 c0 c1 c2 c3 c4 fz b0 b1 b2 b3 bf0 bf1 bf2 bf3 HFL
      obtain ⟨c0, c1, c2, c3, c4, fz⟩ := HE3.out.rs.cells
      obtain ⟨b0, b1, b2, b3, bf⟩ := node_cells HE3.out.res
      have bf0 := bf 0
      have bf1 := bf 1
      have bf2 := bf 2
      have bf3 := bf 3
      clear bf
      go_wp2_with fail
      obtain ⟨h7, g7⟩ := store4 HE3.out.res (.int .i64 0) (.int .i64 0) (.int .i64 0) (.slice none 0 0)
      generalize (((w3.setCell ⟨w.heap.size, 0, none⟩ (.int .i64 0)).setCell ⟨w.heap.size, 1, none⟩ (.int .i64 0)).setCell ⟨w.heap.size, 2, none⟩ (.int .i64 0)).setCell ⟨w.heap.size, 3, none⟩ (.slice none 0 0) = w7 at h7 g7 ⊢
      obtain ⟨f1, f2⟩ := HE3.out.none H0.out g7
      clear b0 b1 b2 b3 bf0 bf1 bf2 bf3
      obtain ⟨n0, n1, n2, n3, -⟩ := node_cells h7
      exact bodyPost_ret (v := .agg #[.int .i64 0, .int .i64 0, .int .i64 0, .slice none 0 0]) (by simp [results, Try.results28, go_sem, n0, n1, n2, n3]) rfl
        (by rw [HEN.out]; exact ⟨.slice none 0 0, rfl, .nil, f1, f2⟩)
  · have t2 : (u.bad == 0) = false := by simpa using hbd
    have t3 : (u.bad != 0) = true := by simpa using hbd
    have hcol : colonS X u = u := by unfold colonS; rw [if_neg (fun h => hbd h.1)]
    have HEN := Lib.hid (entry_none X val s u u HS1.out hcol hbd)
    clear hcol hmv hbd
    go_wp2_with fail
    obtain ⟨h7, g7⟩ := store4 HE2.out.res (.int .i64 0) (.int .i64 0) (.int .i64 0) (.slice none 0 0)
    generalize (((w2.setCell ⟨w.heap.size, 0, none⟩ (.int .i64 0)).setCell ⟨w.heap.size, 1, none⟩ (.int .i64 0)).setCell ⟨w.heap.size, 2, none⟩ (.int .i64 0)).setCell ⟨w.heap.size, 3, none⟩ (.slice none 0 0) = w7 at h7 g7 ⊢
    obtain ⟨f1, f2⟩ := HE2.out.none H0.out g7
    clear b0 b1 b2 b3 bf0 bf1 bf2 bf3
    obtain ⟨n0, n1, n2, n3, -⟩ := node_cells h7
    exact bodyPost_ret (v := .agg #[.int .i64 0, .int .i64 0, .int .i64 0, .slice none 0 0]) (by simp [results, Try.results28, go_sem, n0, n1, n2, n3]) rfl
      (by rw [HEN.out]; exact ⟨.slice none 0 0, rfl, .nil, f1, f2⟩)
end Go.Proofs.Ytfjeikijmconoaa
