/-
  The contracts of a maybe's joined and over. Conditions: the parts lie where the arguments say.
-/
import Derived.Test.YtaibpnblnigkgaaSpliceW
import Derived.Test.YtaibpnblnigkgaaHubMem
namespace Go.Proofs.Ytaibpnblnigkgaa
open Go.RowKit Gx
set_option maxRecDepth 100000

/-- new since then -/
def Fresh (N : Nat) (ad : Option Addr) : Prop := ∀ a, ad = some a → N ≤ a.block
def JoinOk (is : Bool) (l k : List Part) : Prop := if is = true then CmpOk l k else chk k = 0
def joinT (is : Bool) (l k : List Part) : List Part := if is = true then cmpT l k else nf (ex k)
def JoinP (is : Bool) (l k : List Part) (w : World) (e : Ending) (w' : World) : Prop :=
  ∃ (mo : Option Addr) (n mc : Nat) (c : Int), e = .returned (.tuple #[.agg #[.bool true, .slice mo n mc], .int .i64 c]) ∧ (c = 0 ↔ JoinOk is l k) ∧ (c = 0 → n = (joinT is l k).length ∧ PR w' mo mc (joinT is l k) ∧ Fresh w.heap.size mo) ∧ Below w.heap.size w w'
theorem two_cells {w : World} {b : Nat} {x y : Value} {ty : TypeId} (h : w.heap[b]? = some (.cells #[x, y] ty)) :
    w.cell? ⟨b, 0, none⟩ = some x ∧ w.cell? ⟨b, 1, none⟩ = some y ∧ ∀ j, w.frozen? ⟨b, j, none⟩ = false :=
  ⟨by simp [World.cell?, h], by simp [World.cell?, h], fun j => by simp [World.frozen?, h]⟩
theorem store2 {w : World} {b : Nat} {x y : Value} {ty : TypeId} (h : w.heap[b]? = some (.cells #[x, y] ty)) (x' y' : Value) :
    ((w.setCell ⟨b, 0, none⟩ x').setCell ⟨b, 1, none⟩ y').heap[b]? = some (.cells #[x', y'] ty) ∧ w.grownBy ((w.setCell ⟨b, 0, none⟩ x').setCell ⟨b, 1, none⟩ y') (some b) := by
  refine ⟨?_, (grown_set2 w b 0 x').trans (grown_set2 _ b 1 y')⟩
  have hs : ∀ (v : World) (j : Nat) (q : Value) (A : Array Value), v.heap[b]? = some (.cells A ty) → (v.setCell ⟨b, j, none⟩ q).heap[b]? = some (.cells (A.setIfInBounds j q) ty) := fun v j q A hv => by
    simp [World.setCell, Array.getElem?_modify, hv]
  rw [hs _ 1 y' _ (hs _ 0 x' _ h)]
  simp
theorem fresh_two (w : World) (o : Obj) (x y : Value) : ((w.alloc o).alloc (.cells #[x, y] 67)).heap[w.heap.size]? = some o ∧ ((w.alloc o).alloc (.cells #[x, y] 67)).heap[w.heap.size + 1]? = some (.cells #[x, y] 67) := by
  have hz : (w.alloc o).heap.size = w.heap.size + 1 := World.size_alloc _ _
  exact ⟨(heap_alloc_old _ _ (by rw [hz]; exact Nat.lt_succ_self _)).trans (heap_alloc_new w _), by rw [← hz]; exact heap_alloc_new _ _⟩

set_option maxHeartbeats 4000000 in
theorem joined_any (is : Bool) (ad bd : Option Addr) (ca cb : Nat) (l k : List Part) (w : World) (h : PR w ad ca l) (g : PR w bd cb k) :
    Calls Try.prog 29 #[.agg #[.bool is, .slice ad l.length ca], .slice bd k.length cb] w (JoinP is l k w) := by
  have hbl : Below w.heap.size w ((w.alloc (.cells #[.bool is, .slice ad l.length ca] 67)).alloc (.cells #[.bool false, .slice none 0 0] 67)) := ((Below.refl w.heap.size w).alloc (Nat.le_refl _) _).alloc (by rw [World.size_alloc]; omega) _
  obtain ⟨hb1, hb2⟩ := fresh_two w (.cells #[.bool is, .slice ad l.length ca] 67) (.bool false) (.slice none 0 0)
  have HP := Lib.hid (h.keep hbl)
  have HG := Lib.hid (g.keep hbl)
  have HB := Lib.hid hbl
  have HB1 := Lib.hid hb1
  have HB2 := Lib.hid hb2
  clear h g hbl hb1 hb2
  go_enter Try.func29, Try.ntmps29
  go_upto_region 2 with fail
  generalize (w.alloc (.cells #[.bool is, .slice ad l.length ca] 67)).alloc (.cells #[.bool false, .slice none 0 0] 67) = w1 at HP HG HB HB1 HB2 ⊢
  obtain ⟨c0, c1, -⟩ := two_cells HB1.out
  have hz1 := HB.out.size
  have hz2 := (Array.getElem?_eq_some_iff.1 HB2.out).1
  cases is with
  | true =>
    go_wp2_with fail
    refine (Compose_w ad bd ca cb l k w1 HP.out HG.out).mono ?_
    rintro e w2 ⟨mo, n, mc, c, rfl, hc1, hc2, hb⟩
    have HC1 := Lib.hid hc1
    have HC2 := Lib.hid hc2
    have HBB := Lib.hid (HB.out.trans (hb.mono hz1))
    have hbx := (hb.block _ hz2).trans HB2.out
    obtain ⟨d0, d1, df⟩ := two_cells hbx
    obtain ⟨e1, e2⟩ := store2 hbx (.bool true) (.slice mo n mc)
    have hsz := Nat.le_trans hz1 hb.size
    have hf0 := df 0
    have hf1 := df 1
    have HE2 := Lib.hid e2
    obtain ⟨f0, f1, -⟩ := two_cells e1
    clear hc1 hc2 hb hbx df c0 c1 e1 e2
    go_wp2_with fail
    refine bodyPost_ret (v := .tuple #[.agg #[.bool true, .slice mo n mc], .int .i64 c]) (by simp [results, Try.results29, go_sem, f0, f1]) rfl ⟨mo, n, mc, c, rfl, HC1.out, fun h0 => ?_, HBB.out.grown HE2.out hsz (fun k e => by have := Option.some.inj e; omega)⟩
    obtain ⟨p1, p2, p3⟩ := HC2.out h0
    refine ⟨p1, PR.over p2 HE2.out.size (fun a ha _ hlt => HE2.out.block _ hlt (fun e => by have := p3 a ha; have := Option.some.inj e; omega)), fun a ha => Nat.le_trans hz1 (p3 a ha)⟩
  | false =>
    by_cases hk : chk k = 0
    · have HN := Lib.hid (Norm_pr bd cb k w1 HG.out hk)
      have HK := Lib.hid hk
      clear hk
      go_wp2_with fail
      refine HN.out.mono ?_
      rintro e w2 ⟨mo, mc, rfl, hp, hb⟩
      have HP2 := Lib.hid hp
      have HBB := Lib.hid (HB.out.trans (hb.mono hz1))
      have hbx := (hb.block _ hz2).trans HB2.out
      obtain ⟨d0, d1, df⟩ := two_cells hbx
      obtain ⟨n, hn⟩ : ∃ n, (nf (ex k)).length = n := ⟨_, rfl⟩
      rw [hn]
      have HNN := Lib.hid hn
      obtain ⟨e1, e2⟩ := store2 hbx (.bool true) (.slice mo n mc)
      have hsz := Nat.le_trans hz1 hb.size
      have hf0 := df 0
      have hf1 := df 1
      have HE2 := Lib.hid e2
      obtain ⟨f0, f1, -⟩ := two_cells e1
      clear hp hb hbx df c0 c1 e1 e2 hn
      go_wp2_with fail
      exact bodyPost_ret (v := .tuple #[.agg #[.bool true, .slice mo n mc], .int .i64 0]) (by simp [results, Try.results29, go_sem, f0, f1]) rfl ⟨mo, n, mc, 0, rfl, ⟨fun _ => HK.out, fun _ => rfl⟩, fun _ => ⟨HNN.out.symm, HP2.out.1.over HE2.out.size (fun a ha _ hlt => HE2.out.block _ hlt (fun e => by have := HP2.out.2 a ha; have := Option.some.inj e; omega)), fun a ha => Nat.le_trans hz1 (HP2.out.2 a ha)⟩, HBB.out.grown HE2.out hsz (fun k e => by have := Option.some.inj e; omega)⟩
    · have HN := Lib.hid (Norm_no bd cb k w1 HG.out hk)
      have HK := Lib.hid hk
      obtain ⟨c, hc⟩ : ∃ c, chk k = c := ⟨_, rfl⟩
      rw [hc] at HN hk
      clear hc
      go_wp2_with fail
      refine HN.out.mono ?_
      rintro e w2 ⟨rfl, hb⟩
      have HBB := Lib.hid (HB.out.trans (hb.mono hz1))
      have hbx := (hb.block _ hz2).trans HB2.out
      obtain ⟨d0, d1, df⟩ := two_cells hbx
      obtain ⟨e1, e2⟩ := store2 hbx (.bool true) (.slice none 0 0)
      have hsz := Nat.le_trans hz1 hb.size
      have hf0 := df 0
      have hf1 := df 1
      have HE2 := Lib.hid e2
      obtain ⟨f0, f1, -⟩ := two_cells e1
      clear hb hbx df c0 c1 e1 e2
      go_wp2_with fail
      exact bodyPost_ret (v := .tuple #[.agg #[.bool true, .slice none 0 0], .int .i64 c]) (by simp [results, Try.results29, go_sem, f0, f1]) rfl ⟨none, 0, 0, c, rfl, ⟨fun h => absurd h hk, fun h => absurd h HK.out⟩, fun h => absurd h hk, HBB.out.grown HE2.out hsz (fun k e => by have := Option.some.inj e; omega)⟩

def OverP (l k : List Part) (w : World) (e : Ending) (w' : World) : Prop :=
  ∃ (mo no : Option Addr) (n k' mc nc : Nat) (c : Int), e = .returned (.tuple #[.slice mo n mc, .agg #[.bool true, .slice no k' nc], .int .i64 c]) ∧ (c = 0 ↔ TrOk l k) ∧
    (c = 0 → (n = (trL l k).length ∧ PR w' mo mc (trL l k) ∧ Fresh w.heap.size mo) ∧ k' = (trR l k).length ∧ PR w' no nc (trR l k) ∧ Fresh w.heap.size no) ∧ c ≠ 8 ∧ Below w.heap.size w w'
set_option maxHeartbeats 4000000 in
/-- a change k over another one m that there is -/
theorem over_is (ad bd : Option Addr) (ca cb : Nat) (m k : List Part) (w : World) (h : PR w ad ca m) (g : PR w bd cb k) :
    Calls Try.prog 31 #[.agg #[.bool true, .slice ad m.length ca], .slice bd k.length cb] w (OverP k m w) := by
  have hbl : Below w.heap.size w ((w.alloc (.cells #[.bool true, .slice ad m.length ca] 67)).alloc (.cells #[.bool false, .slice none 0 0] 67)) := ((Below.refl w.heap.size w).alloc (Nat.le_refl _) _).alloc (by rw [World.size_alloc]; omega) _
  obtain ⟨hb1, hb2⟩ := fresh_two w (.cells #[.bool true, .slice ad m.length ca] 67) (.bool false) (.slice none 0 0)
  have HP := Lib.hid (h.keep hbl)
  have HG := Lib.hid (g.keep hbl)
  have HB := Lib.hid hbl
  have HB1 := Lib.hid hb1
  have HB2 := Lib.hid hb2
  clear h g hbl hb1 hb2
  go_enter Try.func31, Try.ntmps31
  go_upto_region 1 with fail
  generalize (w.alloc (.cells #[.bool true, .slice ad m.length ca] 67)).alloc (.cells #[.bool false, .slice none 0 0] 67) = w1 at HP HG HB HB1 HB2 ⊢
  obtain ⟨c0, c1, -⟩ := two_cells HB1.out
  have hz1 := HB.out.size
  have hz2 := (Array.getElem?_eq_some_iff.1 HB2.out).1
  go_wp2_with fail
  refine (Transform_w bd ad cb ca k m w1 HG.out HP.out).mono ?_
  rintro e w2 ⟨mo, no, n, k', mc, nc, c, rfl, hc1, hc2, ⟨-, h8⟩, hb⟩
  have H8 := Lib.hid h8
  clear h8
  have HC1 := Lib.hid hc1
  have HC2 := Lib.hid hc2
  have HBB := Lib.hid (HB.out.trans (hb.mono hz1))
  have hbx := (hb.block _ hz2).trans HB2.out
  obtain ⟨d0, d1, df⟩ := two_cells hbx
  obtain ⟨e1, e2⟩ := store2 hbx (.bool true) (.slice no k' nc)
  have hsz := Nat.le_trans hz1 hb.size
  have hf0 := df 0
  have hf1 := df 1
  have HE2 := Lib.hid e2
  obtain ⟨f0, f1, -⟩ := two_cells e1
  clear hc1 hc2 hb hbx df c0 c1 e1 e2
  go_wp2_with fail
  refine bodyPost_ret (v := .tuple #[.slice mo n mc, .agg #[.bool true, .slice no k' nc], .int .i64 c]) (by simp [results, Try.results31, go_sem, f0, f1]) rfl ⟨mo, no, n, k', mc, nc, c, rfl, HC1.out, fun h0 => ?_, H8.out, HBB.out.grown HE2.out hsz (fun k e => by have := Option.some.inj e; omega)⟩
  obtain ⟨⟨p1, p2, p3⟩, q1, q2, q3⟩ := HC2.out h0
  exact ⟨⟨p1, PR.over p2 HE2.out.size (fun a ha _ hlt => HE2.out.block _ hlt (fun e => by have := p3 a ha; have := Option.some.inj e; omega)), fun a ha => Nat.le_trans hz1 (p3 a ha)⟩, q1, PR.over q2 HE2.out.size (fun a ha _ hlt => HE2.out.block _ hlt (fun e => by have := q3 a ha; have := Option.some.inj e; omega)), fun a ha => Nat.le_trans hz1 (q3 a ha)⟩
set_option maxHeartbeats 4000000 in
/-- nothing there: nothing is changed -/
theorem over_not (ad bd : Option Addr) (n k ca cb : Nat) (w : World) :
    Calls Try.prog 31 #[.agg #[.bool false, .slice ad n ca], .slice bd k cb] w fun e w' => e = .returned (.tuple #[.slice bd k cb, .agg #[.bool false, .slice ad n ca], .int .i64 0]) ∧ Below w.heap.size w w' := by
  have hbl : Below w.heap.size w ((w.alloc (.cells #[.bool false, .slice ad n ca] 67)).alloc (.cells #[.bool false, .slice none 0 0] 67)) := ((Below.refl w.heap.size w).alloc (Nat.le_refl _) _).alloc (by rw [World.size_alloc]; omega) _
  obtain ⟨hb1, hb2⟩ := fresh_two w (.cells #[.bool false, .slice ad n ca] 67) (.bool false) (.slice none 0 0)
  have HB := Lib.hid hbl
  have HB1 := Lib.hid hb1
  have HB2 := Lib.hid hb2
  clear hbl hb1 hb2
  go_enter Try.func31, Try.ntmps31
  go_upto_region 1 with fail
  generalize (w.alloc (.cells #[.bool false, .slice ad n ca] 67)).alloc (.cells #[.bool false, .slice none 0 0] 67) = w1 at HB HB1 HB2 ⊢
  obtain ⟨c0, c1, -⟩ := two_cells HB1.out
  have hz1 := HB.out.size
  have hz2 := (Array.getElem?_eq_some_iff.1 HB2.out).1
  obtain ⟨d0, d1, df⟩ := two_cells HB2.out
  obtain ⟨e1, e2⟩ := store2 HB2.out (.bool false) (.slice ad n ca)
  have hf0 := df 0
  have hf1 := df 1
  obtain ⟨f0, f1, -⟩ := two_cells e1
  have hgd : ∀ v : World, v.grownBy v.drew (some (w.heap.size + 1)) := fun v => ⟨rfl, rfl, rfl, Nat.le_refl _, fun _ _ _ => rfl⟩
  have HE2 := Lib.hid (e2.trans (hgd _))
  clear df e1 e2 hgd
  go_wp2_with fail
  go_region
  go_wp2_with fail
  exact bodyPost_ret (v := .tuple #[.slice bd k cb, .agg #[.bool false, .slice ad n ca], .int .i64 0]) (by simp [results, Try.results31, go_sem, f0, f1]) rfl ⟨rfl, HB.out.grown HE2.out hz1 (fun k e => by have := Option.some.inj e; omega)⟩
end Go.Proofs.Ytaibpnblnigkgaa
