/-
  The contract of tree.Parse. Condition: a variable of the library's holds some integer.
-/
import Derived.Test.YtfjeikijmconoaaTreeValue
import Derived.Test.YtfjeikijmconoaaTreeFirstLaw
import Derived.Test.YtfjeikijmconoaaTokFront
import Derived.RegionTactic
namespace Go.Proofs.Ytfjeikijmconoaa
open Go.RowKit Gx
set_option maxRecDepth 100000

/-- the tokens of a text that is not too large -/
abbrev treeX (l : List UInt8) : TS := treeOf l 30000
def docNd (l : List UInt8) : Nd := .mk 6 0 (treeX l).T.length [(valueS (treeX l) 20 ⟨0, 0, 0⟩).2]
/-- what tree.Parse hands back -/
def ParsePost (l : List UInt8) (w : World) (e : Ending) (w' : World) : Prop :=
  Below w.heap.size w w' ∧
  ((20000 < l.length ∧ e = .returned (.tuple #[.agg #[.int .i64 0, .int .i64 0, .int .i64 0, .slice none 0 0], .int .i64 0, .int .i64 2])) ∨
   (l.length ≤ 20000 ∧ (parseS (treeX l)).bad ≠ 0 ∧ e = .returned (.tuple #[.agg #[.int .i64 0, .int .i64 0, .int .i64 0, .slice none 0 0], .int .i64 (parseS (treeX l)).wh, .int .i64 (parseS (treeX l)).bad])) ∨
   (l.length ≤ 20000 ∧ (parseS (treeX l)).bad = 0 ∧ ∃ g, e = .returned (.tuple #[.agg #[.int .i64 6, .int .i64 0, .int .i64 (treeX l).T.length, .slice (some ⟨g, 0, none⟩) 1 1], .int .i64 0, .int .i64 0]) ∧
      KidsAt w' (fun b => w.heap.size ≤ b) (docNd l).kids (.slice (some ⟨g, 0, none⟩) 1 1)))

/-- Parse's state in memory, behind the value -/
structure QR (w : World) (R : Nat) (ta : Option Addr) (tc : Nat) (S : ByteArray) (X : TS) (P : Nat) (nd : Nd) (ks : Value) (u : PS) (wx : World) : Prop where
  rs : RS wx R ta tc S X u
  res : wx.heap[w.heap.size]? = some (.cells #[.int .i64 0, .int .i64 0, .int .i64 0, .slice none 0 0] 34)
  kb : wx.heap[P]? = some (.cells #[.int .i64 nd.k, .int .i64 nd.a, .int .i64 nd.b, ks] 34)
  kids : KidsAt wx (fun b => R < b) nd.kids ks
  lo : w.heap.size < R
  lo2 : R < P
  bel : Below w.heap.size w wx
section
variable {w : World} {R : Nat} {ta : Option Addr} {tc : Nat} {S : ByteArray} {X : TS} {P : Nat} {nd : Nd} {ks : Value} {u u2 : PS} {wx w2 : World}
theorem QR.hi (h : QR w R ta tc S X P nd ks u wx) : P < wx.heap.size := (Array.getElem?_eq_some_iff.1 h.kb).1
theorem QR.grow (h : QR w R ta tc S X P nd ks u wx) (hr : RS w2 R ta tc S X u2) (hg : wx.grownBy w2 (some R)) : QR w R ta tc S X P nd ks u2 w2 := by
  have hs := h.hi
  have hl := h.lo
  have hl2 := h.lo2
  exact ⟨hr, (hg.block _ (by omega) (fun e => by have := Option.some.inj e; omega)).trans h.res, (hg.block _ (by omega) (fun e => by have := Option.some.inj e; omega)).trans h.kb, h.kids.grow hg (fun b e => by have := Option.some.inj e; omega), hl, hl2, h.bel.grown hg (by omega) (fun k e => by have := Option.some.inj e; omega)⟩
theorem QR.drewN (h : QR w R ta tc S X P nd ks u wx) (n : Nat) : QR w R ta tc S X P nd ks u (wx.drewN n) :=
  h.grow (h.rs.drewN n) (grown_drew _ _ _)
theorem QR.start {w1 w3 : World} {s : PS} (hb : Below w.heap.size w w1) (hz : w.heap.size < w1.heap.size) (hres : w1.heap[w.heap.size]? = some (.cells #[.int .i64 0, .int .i64 0, .int .i64 0, .slice none 0 0] 34)) (o : Obj)
    (hr : RS w3 w1.heap.size ta tc S X s) (hg : (w1.alloc o).grownBy w3 (some w1.heap.size)) (hk : KidsAt w3 (fun b => (w1.alloc o).heap.size ≤ b) nd.kids ks) :
    QR w w1.heap.size ta tc S X w3.heap.size nd ks s (w3.alloc (.cells #[.int .i64 nd.k, .int .i64 nd.a, .int .i64 nd.b, ks] 34)) := by
  have hs := hg.size
  rw [World.size_alloc] at hs
  have h1 : w1.grownBy w3 (some w1.heap.size) := (grown_alloc w1 o _).trans hg
  refine ⟨hr.alloc _, (heap_alloc_old w3 _ (by omega)).trans ((h1.block _ hz (fun e => by have := Option.some.inj e; omega)).trans hres), heap_alloc_last _ _, (hk.weak (fun b hb _ => by rw [World.size_alloc] at hb; omega)).grow (grown_alloc w3 _ none) (fun b e => by simp at e), hz, by omega, ?_⟩
  exact (hb.grown h1 (by omega) (fun k e => by have := Option.some.inj e; omega)).alloc (by omega) _
theorem QR.fin {w6 : World} (h : QR w R ta tc S X P nd ks u w2) (hg : w2.grownBy w6 (some w.heap.size)) (hz : w6.heap.size = w2.heap.size) :
    Below w.heap.size w (w6.alloc (.cells #[.int .i64 nd.k, .int .i64 nd.a, .int .i64 nd.b, ks] 34)) ∧ KidsAt (w6.alloc (.cells #[.int .i64 nd.k, .int .i64 nd.a, .int .i64 nd.b, ks] 34)) (fun b => w.heap.size ≤ b) [nd] (.slice (some ⟨w2.heap.size, 0, none⟩) 1 1) := by
  have hs := h.hi
  have hl := h.lo
  have hl2 := h.lo2
  have hc4 : ∀ j u, ([.int .i64 nd.k, .int .i64 nd.a, .int .i64 nd.b, ks] : List Value)[j]? = some u → (w6.alloc (.cells #[.int .i64 nd.k, .int .i64 nd.a, .int .i64 nd.b, ks] 34)).cell? ⟨w2.heap.size, j, none⟩ = some u := fun j u hj => by
    have h1 := World.cell?_alloc_mark w6 #[.int .i64 nd.k, .int .i64 nd.a, .int .i64 nd.b, ks] 34 (0, 0) j
    rw [hz] at h1
    exact h1.trans (by simpa using hj)
  have hk : KidsAt (w6.alloc (.cells #[.int .i64 nd.k, .int .i64 nd.a, .int .i64 nd.b, ks] 34)) (fun b => w.heap.size ≤ b) nd.kids ks :=
    ((h.kids.grow hg (fun b e hb => by have := Option.some.inj e; omega)).weak (C := fun b => w.heap.size ≤ b) (fun b hb _ => by omega)).grow (grown_alloc _ _ none) (fun b e => by simp at e)
  refine ⟨(h.bel.grown hg (by omega) (fun k e => by have := Option.some.inj e; omega)).alloc (by omega) _, .row [nd] (fun _ => ks) w2.heap.size 1 (by simp) (by omega) (by simp only [World.size_alloc]; omega) (fun i n hi => ?_) (fun i n hi => ?_)⟩
  · match i, hi with
    | 0, hi =>
      have : nd = n := by simpa using hi
      subst this
      exact ⟨hc4 0 _ rfl, hc4 1 _ rfl, hc4 2 _ rfl, hc4 3 _ rfl⟩
    | i + 1, hi => simp at hi
  · match i, hi with
    | 0, hi =>
      have : nd = n := by simpa using hi
      subst this
      exact hk
    | i + 1, hi => simp at hi
theorem QR.none {w6 : World} (h : QR w R ta tc S X P nd ks u w2) (hg : w2.grownBy w6 (some w.heap.size)) : Below w.heap.size w w6 :=
  h.bel.grown hg (by have := h.hi; have := h.lo; have := h.lo2; omega) (fun k e => by have := Option.some.inj e; omega)
end
theorem tree_pos (l : List UInt8) (F : Nat) : ∀ j, j < (treeOf l F).T.length → (treeOf l F).pos j < (treeOf l F).l.length := fun j hj => by
  have hget : (toksFrom l 0)[j]? = some ((toksFrom l 0)[j]'hj) := List.getElem?_eq_getElem hj
  have hlow := toksFrom_low l l.length 0 (by omega) _ (List.mem_of_getElem? hget)
  unfold TS.pos treeOf
  simp only
  rw [hget]
  exact hlow.2

set_option maxHeartbeats 8000000 in
theorem parse_any (s : ByteArray) (w : World) (hm : MaxOk w) : Calls Try.prog 13 #[.string s] w (ParsePost s.data.toList w) := by
  have hlen : s.data.toList.length = s.size := Array.length_toList
  have hmx : MaxOk (w.alloc (.cells #[.int .i64 0, .int .i64 0, .int .i64 0, .slice none 0 0] 34)) := MaxOk.keep hm ((Below.refl w.heap.size w).alloc (Nat.le_refl _) _)
  have HC := Lib.hid (cut_any s (w.alloc (.cells #[.int .i64 0, .int .i64 0, .int .i64 0, .slice none 0 0] 34)) hmx)
  unfold CutPost at HC
  clear hmx hm
  by_cases hL : 20000 < s.size
  · have HL : Hid (20000 < s.data.toList.length) := Lib.hid (by omega)
    clear hlen
    go_enter Try.func13, Try.ntmps13
    go_wp2_with fail
    refine HC.out.mono ?_
    rintro e w1 (⟨h1, -⟩ | ⟨-, rfl, rfl⟩)
    · exact absurd HL.out (by omega)
    clear HC hL
    go_wp2_with fail
    exact bodyPost_ret (v := .tuple #[.agg #[.int .i64 0, .int .i64 0, .int .i64 0, .slice none 0 0], .int .i64 0, .int .i64 2]) (by simp [results, Try.results13, go_sem]) rfl
      ⟨(Below.refl w.heap.size w).alloc (Nat.le_refl _) _, .inl ⟨HL.out, rfl⟩⟩
  · have HL : Hid (s.data.toList.length ≤ 20000) := Lib.hid (by omega)
    clear hlen
    go_enter Try.func13, Try.ntmps13
    go_wp2_with fail
    refine HC.out.mono ?_
    rintro e w1 (⟨-, vo, vc, rfl, hown, hbel⟩ | ⟨h1, -⟩)
    rotate_left
    · exact absurd HL.out (by omega)
    clear HC hL
    have hres : w1.heap[w.heap.size]? = some (.cells #[.int .i64 0, .int .i64 0, .int .i64 0, .slice none 0 0] 34) := (hbel.block _ (by rw [World.size_alloc]; omega)).trans (heap_alloc_last w _)
    have hz1 : w.heap.size < w1.heap.size := (Array.getElem?_eq_some_iff.1 hres).1
    have hb1 : Below w.heap.size w w1 := ((Below.refl w.heap.size w).alloc (Nat.le_refl _) _).trans (hbel.mono (by rw [World.size_alloc]; omega))
    have hT : (treeX s.data.toList).T.length ≤ 20000 := Nat.le_trans (toks_len _) HL.out
    have hrs : RS (w1.alloc (.cells #[.string s, .slice vo (toks s.data.toList).length vc, .int .i64 0, .int .i64 0, .int .i64 0] 46)) w1.heap.size vo vc s (treeX s.data.toList) ⟨0, 0, 0⟩ :=
      ⟨heap_alloc_last w1 _, (TokAt.of_own (g := 0) hown rfl).keep ((Below.refl _ _).alloc (Nat.le_refl _) _), rfl, fun a e => by
        have := (hown.lt a.block (by rw [e]; rfl)).2
        omega⟩
    have HV := Lib.hid (value_any w1.heap.size vo vc s (treeX s.data.toList) hT (tree_pos _ _) (by show _ ≤ 30000; omega) (by show 30000 ≤ 100000; omega) 20 0 (by omega) (by omega) ⟨0, 0, 0⟩ _ hrs rfl (Nat.zero_le _))
    have hvf := value_fine (treeX s.data.toList) 20 ⟨0, 0, 0⟩ rfl (Nat.zero_le _)
    have hps : parseS (treeX s.data.toList) = endS (treeX s.data.toList) (valueS (treeX s.data.toList) 20 ⟨0, 0, 0⟩).1 := rfl
    obtain ⟨X, hX⟩ : ∃ X, treeX s.data.toList = X := ⟨_, rfl⟩
    obtain ⟨TL, hTL⟩ : ∃ TL, (toks s.data.toList).length = TL := ⟨_, rfl⟩
    have hXT : X.T.length = TL := by rw [← hX, ← hTL]; rfl
    rw [hX] at HV hT hps hvf
    rw [hTL] at HV ⊢
    dsimp only at hvf
    obtain ⟨u3, hu3⟩ : ∃ u3, (valueS X 20 ⟨0, 0, 0⟩).1 = u3 := ⟨_, rfl⟩
    obtain ⟨nd, hnd⟩ : ∃ nd, (valueS X 20 ⟨0, 0, 0⟩).2 = nd := ⟨_, rfl⟩
    obtain ⟨u4, hu4⟩ : ∃ u4, u3.skip X = u4 := ⟨_, rfl⟩
    have hu4i : u4.i ≤ X.T.length + 20 := by
      rw [hu3] at hvf
      have h1 := skip_fine X u3
      rw [hu4] at h1
      rcases Nat.lt_or_ge X.T.length u3.i with h | h
      · rw [h1.2.2 (by omega)]; omega
      · have := h1.2.1 h; omega
    unfold NP at HV
    rw [hu3, hnd] at HV
    rw [hu3] at hvf hps
    have HRES := Lib.hid hres
    have HB1 := Lib.hid hb1
    have HPS := Lib.hid hps
    have HU4 := Lib.hid hu4
    have HND := Lib.hid hnd
    have HX := Lib.hid hX
    have hu3i : u3.i ≤ 100000 := by omega
    have HXT := Lib.hid hXT
    clear hown hbel hres hb1 hrs hps hu4 hnd hX hTL hvf hu3 hXT
    go_wp2_with fail
    refine HV.out.mono ?_
    rintro e w3 ⟨ks, rfl, hk3, hr3, hg3⟩
    obtain ⟨ko, kc, rfl⟩ := hk3.form
    have HQ0 := Lib.hid (QR.start HB1.out hz1 HRES.out _ hr3 hg3 hk3)
    clear hk3 hr3 hg3 HV HB1 HRES
    go_wp2_with fail
    refine (skip_any w1.heap.size vo vc s X u3 _ HQ0.out.rs hT hu3i).mono ?_
    rintro e w5 ⟨rfl, hr5, hg5⟩
    rw [HU4.out] at hr5
    have HQ := Lib.hid (HQ0.out.grow hr5 hg5)
    clear hr5 hg5 HQ0
    obtain ⟨c0, c1, c2, c3, c4, fz⟩ := HQ.out.rs.cells
    by_cases hlt : u4.i < TL
    · have t1 : decide ((u4.i : Int) < (TL : Int)) = true := decide_eq_true (by omega)
      have t2 : decide (u4.i < TL) = true := decide_eq_true hlt
      have hu4j : u4.i ≤ 200000 := by omega
      have HFL := Lib.hid (fail_any 4 w1.heap.size vo vc s X u4 _ HQ.out.rs hT hu4j)
      unfold RP at HFL
      obtain ⟨u5, hu5⟩ : ∃ u5, u4.fail X 4 = u5 := ⟨_, rfl⟩
      have hbad : u5.bad ≠ 0 := by rw [← hu5]; exact fail_bad X 4 (by decide) u4
      have HP := Lib.hid (show parseS X = u5 by rw [HPS.out]; unfold endS; rw [HU4.out, HXT.out, if_pos hlt, hu5])
      rw [hu5] at HFL
      clear hu5 hlt
      go_wp2_with fail
      refine HFL.out.mono ?_
      rintro e w6 ⟨rfl, hr6, hg6⟩
      have HQ6 := Lib.hid (HQ.out.grow hr6 hg6)
      clear hr6 hg6 HQ c0 c1 c2 c3 c4 fz HFL
      have HQ := HQ6
      clear HQ6
      obtain ⟨c0, c1, c2, c3, c4, fz⟩ := HQ.out.rs.cells
      obtain ⟨b0, b1, b2, b3, bf⟩ := node_cells HQ.out.res
      have bf0 := bf 0
      have bf1 := bf 1
      have bf2 := bf 2
      have bf3 := bf 3
      clear bf
      have HB5 := Lib.hid hbad
      have t9 : (u5.bad != 0) = true := by simpa using hbad
      clear hbad
      go_wp2_with fail
      go_region
      go_wp2_with fail
      obtain ⟨h7, g7⟩ := store4 HQ.out.res (.int .i64 0) (.int .i64 0) (.int .i64 0) (.slice none 0 0)
      generalize ((((w6.setCell ⟨w.heap.size, 0, none⟩ (.int .i64 0)).setCell ⟨w.heap.size, 1, none⟩ (.int .i64 0)).setCell ⟨w.heap.size, 2, none⟩ (.int .i64 0)).setCell ⟨w.heap.size, 3, none⟩ (.slice none 0 0)) = w7 at h7 g7 ⊢
      have h9 : w7.drew.heap[w.heap.size]? = _ := h7
      have g9 := HQ.out.none (g7.trans (grown_drew w7 1 _))
      change Below w.heap.size w w7.drew at g9
      clear b0 b1 b2 b3 bf0 bf1 bf2 bf3 c0 c1 c2 c3 c4 fz
      generalize w7.drew = w9 at h9 g9 ⊢
      obtain ⟨n0, n1, n2, n3, -⟩ := node_cells h9
      exact bodyPost_ret (v := .tuple #[.agg #[.int .i64 0, .int .i64 0, .int .i64 0, .slice none 0 0], .int .i64 u5.wh, .int .i64 u5.bad]) (by simp [results, Try.results13, go_sem, n0, n1, n2, n3]) rfl
        ⟨g9, .inr (.inl ⟨HL.out, by rw [HX.out, HP.out]; exact HB5.out, by rw [HX.out, HP.out]⟩)⟩
    · have t1 : decide ((u4.i : Int) < (TL : Int)) = false := decide_eq_false (by omega)
      have t2 : decide (u4.i < TL) = false := decide_eq_false hlt
      have HP := Lib.hid (show parseS X = u4 by rw [HPS.out]; unfold endS; rw [HU4.out, HXT.out, if_neg hlt])
      by_cases hbad : u4.bad = 0
      · skip
        obtain ⟨c0, c1, c2, c3, c4, fz⟩ := HQ.out.rs.cells
        obtain ⟨p0, p1, p2, p3, -⟩ := node_cells HQ.out.kb
        obtain ⟨b0, b1, b2, b3, bf⟩ := node_cells HQ.out.res
        have bf0 := bf 0
        have bf1 := bf 1
        have bf2 := bf 2
        have bf3 := bf 3
        clear bf
        have hhi := HQ.out.hi
        have hlo := HQ.out.lo
        have hlo2 := HQ.out.lo2
        have t9 : (u4.bad != 0) = false := by simpa using hbad
        have hhi2 : w.heap.size < w5.heap.size := by omega
        have HB5 := Lib.hid hbad
        have HB0 := Lib.hid HQ.out.res
        clear hbad
        go_wp2_with fail
        obtain ⟨h7, g7⟩ := store4 HB0.out (.int .i64 6) (.int .i64 0) (.int .i64 TL) (.slice (some ⟨w5.heap.size, 0, none⟩) 1 1)
        have hz7 : ((((w5.setCell ⟨w.heap.size, 0, none⟩ (.int .i64 6)).setCell ⟨w.heap.size, 1, none⟩ (.int .i64 0)).setCell ⟨w.heap.size, 2, none⟩ (.int .i64 TL)).setCell ⟨w.heap.size, 3, none⟩ (.slice (some ⟨w5.heap.size, 0, none⟩) 1 1)).heap.size = w5.heap.size := by simp [World.setCell]
        generalize ((((w5.setCell ⟨w.heap.size, 0, none⟩ (.int .i64 6)).setCell ⟨w.heap.size, 1, none⟩ (.int .i64 0)).setCell ⟨w.heap.size, 2, none⟩ (.int .i64 TL)).setCell ⟨w.heap.size, 3, none⟩ (.slice (some ⟨w5.heap.size, 0, none⟩) 1 1)) = w7 at h7 g7 hz7 ⊢
        obtain ⟨f0, f1⟩ := HQ.out.fin g7 hz7
        have h9 := (heap_alloc_old w7 (.cells #[.int .i64 nd.k, .int .i64 nd.a, .int .i64 nd.b, .slice ko nd.kids.length kc] 34) (by omega)).trans h7
        clear b0 b1 b2 b3 bf0 bf1 bf2 bf3 p0 p1 p2 p3 c0 c1 c2 c3 c4 fz
        generalize w7.alloc (.cells #[.int .i64 nd.k, .int .i64 nd.a, .int .i64 nd.b, .slice ko nd.kids.length kc] 34) = w9 at h9 f0 f1 ⊢
        obtain ⟨n0, n1, n2, n3, -⟩ := node_cells h9
        refine bodyPost_ret (v := .tuple #[.agg #[.int .i64 6, .int .i64 0, .int .i64 TL, .slice (some ⟨w5.heap.size, 0, none⟩) 1 1], .int .i64 0, .int .i64 0]) (by simp [results, Try.results13, go_sem, n0, n1, n2, n3]) rfl ⟨f0, .inr (.inr ⟨HL.out, ?_, w5.heap.size, ?_, ?_⟩)⟩
        · rw [HX.out, HP.out]; exact HB5.out
        · rw [HX.out, HXT.out]
        · unfold docNd
          rw [HX.out, HND.out]
          exact f1
      · skip
        obtain ⟨c0, c1, c2, c3, c4, fz⟩ := HQ.out.rs.cells
        obtain ⟨b0, b1, b2, b3, bf⟩ := node_cells HQ.out.res
        have bf0 := bf 0
        have bf1 := bf 1
        have bf2 := bf 2
        have bf3 := bf 3
        clear bf
        have HB5 := Lib.hid hbad
        have t9 : (u4.bad != 0) = true := by simpa using hbad
        clear hbad
        go_wp2_with fail
        go_region
        go_wp2_with fail
        obtain ⟨h7, g7⟩ := store4 HQ.out.res (.int .i64 0) (.int .i64 0) (.int .i64 0) (.slice none 0 0)
        generalize ((((w5.setCell ⟨w.heap.size, 0, none⟩ (.int .i64 0)).setCell ⟨w.heap.size, 1, none⟩ (.int .i64 0)).setCell ⟨w.heap.size, 2, none⟩ (.int .i64 0)).setCell ⟨w.heap.size, 3, none⟩ (.slice none 0 0)) = w7 at h7 g7 ⊢
        have h9 : w7.drew.heap[w.heap.size]? = _ := h7
        have g9 := HQ.out.none (g7.trans (grown_drew w7 1 _))
        change Below w.heap.size w w7.drew at g9
        clear b0 b1 b2 b3 bf0 bf1 bf2 bf3 c0 c1 c2 c3 c4 fz
        generalize w7.drew = w9 at h9 g9 ⊢
        obtain ⟨n0, n1, n2, n3, -⟩ := node_cells h9
        exact bodyPost_ret (v := .tuple #[.agg #[.int .i64 0, .int .i64 0, .int .i64 0, .slice none 0 0], .int .i64 u4.wh, .int .i64 u4.bad]) (by simp [results, Try.results13, go_sem, n0, n1, n2, n3]) rfl
          ⟨g9, .inr (.inl ⟨HL.out, by rw [HX.out, HP.out]; exact HB5.out, by rw [HX.out, HP.out]⟩)⟩
end Go.Proofs.Ytfjeikijmconoaa
