/-
  The contract of the tree reader's leaf. Conditions: as XTree2.
-/
import Derived.Test.YtfjeikijmconoaaTree2
namespace Go.Proofs.Ytfjeikijmconoaa
open Go.RowKit Gx
set_option maxRecDepth 100000

/-- a node's kind, its kids -/
def Nd.k : Nd → Int | .mk k _ _ _ => k
def Nd.kids : Nd → List Nd | .mk _ _ _ ks => ks
/-- kids in memory, in blocks of B's alone -/
inductive KidsAt (w : World) (B : Nat → Prop) : List Nd → Value → Prop
  | nil : KidsAt w B [] (.slice none 0 0)
  | row (kids : List Nd) (sl : Nat → Value) (blk cap : Nat) (hne : kids ≠ []) (hB : B blk) (hlt : blk < w.heap.size)
      (hc : ∀ i n, kids[i]? = some n → w.cell? ⟨blk, i * 4, none⟩ = some (.int .i64 n.k) ∧ w.cell? ⟨blk, i * 4 + 1, none⟩ = some (.int .i64 n.a) ∧ w.cell? ⟨blk, i * 4 + 2, none⟩ = some (.int .i64 n.b) ∧ w.cell? ⟨blk, i * 4 + 3, none⟩ = some (sl i))
      (hk : ∀ i n, kids[i]? = some n → KidsAt w B n.kids (sl i)) : KidsAt w B kids (.slice (some ⟨blk, 0, none⟩) kids.length cap)
theorem KidsAt.weak {w : World} {B C : Nat → Prop} {kids : List Nd} {v : Value} (h : KidsAt w B kids v) (hBC : ∀ b, B b → b < w.heap.size → C b) : KidsAt w C kids v := by
  induction h with
  | nil => exact .nil
  | row kids sl blk cap hne hB hlt hc hk ih => exact .row kids sl blk cap hne (hBC _ hB hlt) hlt hc ih
theorem KidsAt.grow {w w' : World} {B : Nat → Prop} {kids : List Nd} {v : Value} {row : Option Nat} (h : KidsAt w B kids v) (hg : w.grownBy w' row) (hr : ∀ b, row = some b → ¬ B b) : KidsAt w' B kids v := by
  induction h with
  | nil => exact .nil
  | row kids sl blk cap hne hB hlt hc hk ih =>
    have hne2 : some blk ≠ row := fun e => hr blk e.symm hB
    refine .row kids sl blk cap hne hB (Nat.lt_of_lt_of_le hlt hg.size) (fun i n hi => ?_) ih
    obtain ⟨h1, h2, h3, h4⟩ := hc i n hi
    exact ⟨hg.cell h1 hne2, hg.cell h2 hne2, hg.cell h3 hne2, hg.cell h4 hne2⟩
/-- what a call hands back: a node, and a reader -/
def NP (R : Nat) (ta : Option Addr) (tc : Nat) (S : ByteArray) (X : TS) (r : PS × Nd) (w : World) (e : Ending) (w' : World) : Prop :=
  ∃ sl, e = .returned (.agg #[.int .i64 r.2.k, .int .i64 r.2.a, .int .i64 r.2.b, sl]) ∧ KidsAt w' (fun b => w.heap.size ≤ b) r.2.kids sl ∧ RS w' R ta tc S X r.1 ∧ w.grownBy w' (some R)
theorem grown_alloc (w : World) (o : Obj) (r : Option Nat) : w.grownBy (w.alloc o) r := ⟨rfl, rfl, rfl, by simp, fun k hk _ => heap_alloc_old w o hk⟩
theorem RS.alloc {w : World} {R : Nat} {ta : Option Addr} {tc : Nat} {S : ByteArray} {X : TS} {s : PS} (h : RS w R ta tc S X s) (o : Obj) : RS (w.alloc o) R ta tc S X s :=
  ⟨(heap_alloc_old w o h.lt).trans h.obj, h.tok.grow (grown_alloc w o (some R)) h.far, h.str, h.far⟩
/-- a store into a block of four cells -/
theorem node_cells {w : World} {b : Nat} {x y z u : Value} {ty : TypeId} (h : w.heap[b]? = some (.cells #[x, y, z, u] ty)) :
    w.cell? ⟨b, 0, none⟩ = some x ∧ w.cell? ⟨b, 1, none⟩ = some y ∧ w.cell? ⟨b, 2, none⟩ = some z ∧ w.cell? ⟨b, 3, none⟩ = some u ∧ ∀ j, w.frozen? ⟨b, j, none⟩ = false :=
  ⟨by simp [World.cell?, h], by simp [World.cell?, h], by simp [World.cell?, h], by simp [World.cell?, h], fun j => by simp [World.frozen?, h]⟩

theorem store4 {w : World} {b : Nat} {x y z u : Value} {ty : TypeId} (h : w.heap[b]? = some (.cells #[x, y, z, u] ty)) (x' y' z' u' : Value) :
    ((((w.setCell ⟨b, 0, none⟩ x').setCell ⟨b, 1, none⟩ y').setCell ⟨b, 2, none⟩ z').setCell ⟨b, 3, none⟩ u').heap[b]? = some (.cells #[x', y', z', u'] ty) ∧
    w.grownBy ((((w.setCell ⟨b, 0, none⟩ x').setCell ⟨b, 1, none⟩ y').setCell ⟨b, 2, none⟩ z').setCell ⟨b, 3, none⟩ u') (some b) := by
  refine ⟨?_, (((grown_set w b 0 x').trans (grown_set _ b 1 y')).trans (grown_set _ b 2 z')).trans (grown_set _ b 3 u')⟩
  have hs : ∀ (v : World) (j : Nat) (q : Value) (A : Array Value), v.heap[b]? = some (.cells A ty) → (v.setCell ⟨b, j, none⟩ q).heap[b]? = some (.cells (A.setIfInBounds j q) ty) := fun v j q A hv => by
    simp [World.setCell, Array.getElem?_modify, hv]
  rw [hs _ 3 u' _ (hs _ 2 z' _ (hs _ 1 y' _ (hs _ 0 x' _ h)))]
  simp
theorem grown_fresh {w w1 w2 : World} {r : Option Nat} {N : Nat} (h1 : w.grownBy w1 r) (h2 : w1.grownBy w2 (some N)) (hN : w.heap.size ≤ N) : w.grownBy w2 r :=
  ⟨h2.os.trans h1.os, h2.tape.trans h1.tape, h2.output.trans h1.output, Nat.le_trans h1.size h2.size, fun k hk hne =>
    (h2.block k (Nat.lt_of_lt_of_le hk h1.size) (fun e => by have := Option.some.inj e; omega)).trans (h1.block k hk hne)⟩
/-- a reader is as it was where something else was written that is newer than its tokens -/
theorem RS.other {w0 w w' : World} {R : Nat} {ta : Option Addr} {tc : Nat} {S : ByteArray} {X : TS} {s0 s : PS} {N : Nat} (h0 : RS w0 R ta tc S X s0) (h : RS w R ta tc S X s) (hg : w.grownBy w' (some N)) (hN : w0.heap.size ≤ N) : RS w' R ta tc S X s := by
  have hRN : R ≠ N := by have := h0.lt; omega
  refine ⟨(hg.block R h.lt (fun e => hRN (Option.some.inj e))).trans h.obj, ?_, h.str, h.far⟩
  rcases h.tok with ht | ⟨b, h1, h2, h3⟩
  · exact .inl ht
  · rcases h0.tok with ht | ⟨b', h1', h2', -⟩
    · exact .inl ht
    · rw [h1] at h1'
      have e : b = b' := by simpa using h1'
      subst e
      exact .inr ⟨b, h1, Nat.lt_of_lt_of_le h2 hg.size, fun k v hv => hg.cell (h3 k v hv) (fun e => by have : b = N := Option.some.inj e; omega)⟩

set_option maxHeartbeats 8000000 in
theorem leaf_any (kd : Int) (R : Nat) (ta : Option Addr) (tc : Nat) (S : ByteArray) (X : TS) (s : PS) (w : World) (h : RS w R ta tc S X s) (hT : X.T.length ≤ 20000) (hi : s.i ≤ 100000) :
    Calls Try.prog 30 #[.pointer (some ⟨R, 0, none⟩), .int .i64 kd] w (NP R ta tc S X (leafS X kd s) w) := by
  have hne : R ≠ w.heap.size := by have := h.lt; omega
  have H := Lib.hid (skip_any R ta tc S X s _ (h.alloc (.cells #[.int .i64 0, .int .i64 0, .int .i64 0, .slice none 0 0] 34)) hT hi)
  unfold RP at H
  have hsk := skip_i X s
  have H0 := Lib.hid h
  clear h
  have hlf : leafS X kd s = if isLeaf (X.kind (s.skip X).i) then ((s.skip X).inc, .mk kd (s.skip X).i ((s.skip X).i + 1) []) else ((s.skip X).fail X 4, .none) := rfl
  have HLF := Lib.hid hlf
  clear hlf
  generalize s.skip X = u at H hsk HLF
  by_cases hlt : u.i < X.T.length
  · have t1 : decide ((X.T.length : Int) ≤ (u.i : Int)) = false := decide_eq_false (by omega)
    have t1n : decide (X.T.length ≤ u.i) = false := decide_eq_false (by omega)
    have hi1 : (0 : Int) ≤ (u.i : Int) := by omega
    have hi2 : (u.i : Int) < (X.T.length : Int) := by omega
    have hkn : (u.i : Int).toNat = u.i := rfl
    go_enter Try.func30, Try.ntmps30
    go_wp2_with fail
    refine H.out.mono ?_
    rintro e w2 ⟨rfl, hr, hg⟩
    obtain ⟨b, rfl, d0, d1⟩ := hr.tok3 u.i hlt
    obtain ⟨c0, c1, c2, c3, c4, fz⟩ := hr.cells
    have hh4 : w2.heap[w.heap.size]? = some (.cells #[.int .i64 0, .int .i64 0, .int .i64 0, .slice none 0 0] 34) :=
      (hg.block _ (by simp) (fun e => hne (Option.some.inj e).symm)).trans (heap_alloc_last w _)
    have HR := Lib.hid hr
    have HG := Lib.hid ((grown_alloc w _ (some R)).trans hg)
    have HH4 := Lib.hid hh4
    clear hr hg hh4
    obtain ⟨kk, hkk⟩ : ∃ kk, kk = X.kind u.i := ⟨_, rfl⟩
    rw [← hkk] at d0 HLF
    by_cases hlk : isLeaf kk = true
    · have hkd : kk = 4 ∨ kk = 5 := by unfold isLeaf at hlk; simpa using hlk
      rw [if_pos hlk] at HLF
      clear hkk hlk
      rcases hkd with rfl | rfl
      · go_wp2_with fail
        clear c0 c3 c4 d1 hsk
        go_quiet (fail)
        go_wp2_with fail
        have hr5 := (HR.out.drewN nq).set2 (u.i + 1)
        have hg5 := (HG.out.trans (grown_drew w2 nq (some R))).trans (grown_set (w2.drewN nq) R 2 (.int .i64 (u.i + 1 : Nat)))
        have hh5 : ((w2.drewN nq).setCell ⟨R, 2, none⟩ (.int .i64 (u.i + 1 : Nat))).heap[w.heap.size]? = some (.cells #[.int .i64 0, .int .i64 0, .int .i64 0, .slice none 0 0] 34) :=
          ((grown_set (w2.drewN nq) R 2 (.int .i64 (u.i + 1 : Nat))).block _ (Array.getElem?_eq_some_iff.1 HH4.out).1 (fun e => hne (Option.some.inj e).symm)).trans HH4.out
        rw [show ((u.i + 1 : Nat) : Int) = (u.i : Int) + 1 by omega] at hr5 hg5 hh5
        generalize (w2.drewN nq).setCell ⟨R, 2, none⟩ (.int .i64 ((u.i : Int) + 1)) = w5 at hr5 hg5 hh5 ⊢
        obtain ⟨n0, n1, n2, n3, nf⟩ := node_cells hh5
        obtain ⟨-, -, i2, -, -, -⟩ := hr5.cells
        have i2' : w5.cell? ⟨R, 2, none⟩ = some (.int .i64 ((u.i : Int) + 1)) := by rw [show ((u.i : Int) + 1) = ((u.i + 1 : Nat) : Int) by omega]; exact i2
        clear i2 c1 c2 d0 fz
        have HR5 := Lib.hid hr5
        have HG5 := Lib.hid hg5
        clear hr5 hg5
        go_still_tail 11, (by kernel_rfl)
        change wpList _ _ _ _ _ w5.drew
        have hh6 : w5.drew.heap[w.heap.size]? = some (.cells #[.int .i64 0, .int .i64 0, .int .i64 0, .slice none 0 0] 34) := hh5
        clear n0 n1 n2 n3 nf hh5 i2'
        generalize hw6 : w5.drew = w6 at hh6 ⊢
        have HW6 := Lib.hid hw6
        clear hw6
        obtain ⟨n0, n1, n2, n3, nf⟩ := node_cells hh6
        have f0 := nf 0
        have f1 := nf 1
        have f2 := nf 2
        have f3 := nf 3
        clear nf
        have HH6 := Lib.hid hh6
        clear hh6
        go_wp2_with fail
        obtain ⟨h7, g7⟩ := store4 HH6.out (.int .i64 kd) (.int .i64 (u.i : Int)) (.int .i64 ((u.i : Int) + 1)) (.slice none 0 0)
        generalize (((w6.setCell ⟨w.heap.size, 0, none⟩ (.int .i64 kd)).setCell ⟨w.heap.size, 1, none⟩ (.int .i64 (u.i : Int))).setCell ⟨w.heap.size, 2, none⟩ (.int .i64 ((u.i : Int) + 1))).setCell ⟨w.heap.size, 3, none⟩ (.slice none 0 0) = w7 at h7 g7 ⊢
        clear n0 n1 n2 n3 f0 f1 f2 f3
        obtain ⟨n0, n1, n2, n3, nf⟩ := node_cells h7
        have g67 : w5.grownBy w7 (some w.heap.size) := (grown_drew w5 1 _).trans (by rw [show w5.drewN 1 = w6 from HW6.out]; exact g7)
        exact bodyPost_ret (v := .agg #[.int .i64 kd, .int .i64 (u.i : Int), .int .i64 ((u.i : Int) + 1), .slice none 0 0]) (by simp [results, Try.results30, go_sem, n0, n1, n2, n3]) rfl
          (by rw [HLF.out]; exact ⟨.slice none 0 0, rfl, .nil, RS.other H0.out HR5.out g67 (Nat.le_refl _), grown_fresh HG5.out g67 (Nat.le_refl _)⟩)
      · go_wp2_with fail
        clear c0 c3 c4 d1 hsk
        go_quiet (fail)
        go_wp2_with fail
        have hr5 := (HR.out.drewN nq).set2 (u.i + 1)
        have hg5 := (HG.out.trans (grown_drew w2 nq (some R))).trans (grown_set (w2.drewN nq) R 2 (.int .i64 (u.i + 1 : Nat)))
        have hh5 : ((w2.drewN nq).setCell ⟨R, 2, none⟩ (.int .i64 (u.i + 1 : Nat))).heap[w.heap.size]? = some (.cells #[.int .i64 0, .int .i64 0, .int .i64 0, .slice none 0 0] 34) :=
          ((grown_set (w2.drewN nq) R 2 (.int .i64 (u.i + 1 : Nat))).block _ (Array.getElem?_eq_some_iff.1 HH4.out).1 (fun e => hne (Option.some.inj e).symm)).trans HH4.out
        rw [show ((u.i + 1 : Nat) : Int) = (u.i : Int) + 1 by omega] at hr5 hg5 hh5
        generalize (w2.drewN nq).setCell ⟨R, 2, none⟩ (.int .i64 ((u.i : Int) + 1)) = w5 at hr5 hg5 hh5 ⊢
        obtain ⟨n0, n1, n2, n3, nf⟩ := node_cells hh5
        obtain ⟨-, -, i2, -, -, -⟩ := hr5.cells
        have i2' : w5.cell? ⟨R, 2, none⟩ = some (.int .i64 ((u.i : Int) + 1)) := by rw [show ((u.i : Int) + 1) = ((u.i + 1 : Nat) : Int) by omega]; exact i2
        clear i2 c1 c2 d0 fz
        have HR5 := Lib.hid hr5
        have HG5 := Lib.hid hg5
        clear hr5 hg5
        go_still_tail 11, (by kernel_rfl)
        change wpList _ _ _ _ _ w5.drew
        have hh6 : w5.drew.heap[w.heap.size]? = some (.cells #[.int .i64 0, .int .i64 0, .int .i64 0, .slice none 0 0] 34) := hh5
        clear n0 n1 n2 n3 nf hh5 i2'
        generalize hw6 : w5.drew = w6 at hh6 ⊢
        have HW6 := Lib.hid hw6
        clear hw6
        obtain ⟨n0, n1, n2, n3, nf⟩ := node_cells hh6
        have f0 := nf 0
        have f1 := nf 1
        have f2 := nf 2
        have f3 := nf 3
        clear nf
        have HH6 := Lib.hid hh6
        clear hh6
        go_wp2_with fail
        obtain ⟨h7, g7⟩ := store4 HH6.out (.int .i64 kd) (.int .i64 (u.i : Int)) (.int .i64 ((u.i : Int) + 1)) (.slice none 0 0)
        generalize (((w6.setCell ⟨w.heap.size, 0, none⟩ (.int .i64 kd)).setCell ⟨w.heap.size, 1, none⟩ (.int .i64 (u.i : Int))).setCell ⟨w.heap.size, 2, none⟩ (.int .i64 ((u.i : Int) + 1))).setCell ⟨w.heap.size, 3, none⟩ (.slice none 0 0) = w7 at h7 g7 ⊢
        clear n0 n1 n2 n3 f0 f1 f2 f3
        obtain ⟨n0, n1, n2, n3, nf⟩ := node_cells h7
        have g67 : w5.grownBy w7 (some w.heap.size) := (grown_drew w5 1 _).trans (by rw [show w5.drewN 1 = w6 from HW6.out]; exact g7)
        exact bodyPost_ret (v := .agg #[.int .i64 kd, .int .i64 (u.i : Int), .int .i64 ((u.i : Int) + 1), .slice none 0 0]) (by simp [results, Try.results30, go_sem, n0, n1, n2, n3]) rfl
          (by rw [HLF.out]; exact ⟨.slice none 0 0, rfl, .nil, RS.other H0.out HR5.out g67 (Nat.le_refl _), grown_fresh HG5.out g67 (Nat.le_refl _)⟩)
    · have t4 : (kk != 4) = true := by
        unfold isLeaf at hlk
        simp only [Bool.or_eq_true, decide_eq_true_eq, not_or] at hlk
        simpa using hlk.1
      have t5 : (kk != 5) = true := by
        unfold isLeaf at hlk
        simp only [Bool.or_eq_true, decide_eq_true_eq, not_or] at hlk
        simpa using hlk.2
      rw [if_neg hlk] at HLF
      clear hkk hlk
      go_wp2_with fail
      clear c0 c3 c4 d1
      go_quiet (fail)
      go_wp2_with fail
      have HR' := Lib.hid (HR.out.drewN nq)
      have HG' := Lib.hid (HG.out.trans (grown_drew w2 nq (some R)))
      have HH4' : Hid ((w2.drewN nq).heap[w.heap.size]? = some (.cells #[.int .i64 0, .int .i64 0, .int .i64 0, .slice none 0 0] 34)) := Lib.hid (show (w2.drewN nq).heap[w.heap.size]? = _ from HH4.out)
      clear c1 c2 d0 fz
      refine (fail_any 4 R _ tc S X u _ HR'.out hT (by omega)).mono ?_
      rintro e w3 ⟨rfl, hr3, hg3⟩
      have hh3 : w3.heap[w.heap.size]? = some (.cells #[.int .i64 0, .int .i64 0, .int .i64 0, .slice none 0 0] 34) :=
        (hg3.block _ (Array.getElem?_eq_some_iff.1 HH4'.out).1 (fun e => hne (Option.some.inj e).symm)).trans HH4'.out
      obtain ⟨n0, n1, n2, n3, nf⟩ := node_cells hh3
      have f0 := nf 0
      have f1 := nf 1
      have f2 := nf 2
      have f3 := nf 3
      clear nf
      have HH3 := Lib.hid hh3
      have HR3 := Lib.hid hr3
      have HG3 := Lib.hid (HG'.out.trans hg3)
      clear hh3 hr3 hg3
      go_wp2_with fail
      obtain ⟨h7, g7⟩ := store4 HH3.out (.int .i64 0) (.int .i64 0) (.int .i64 0) (.slice none 0 0)
      generalize (((w3.setCell ⟨w.heap.size, 0, none⟩ (.int .i64 0)).setCell ⟨w.heap.size, 1, none⟩ (.int .i64 0)).setCell ⟨w.heap.size, 2, none⟩ (.int .i64 0)).setCell ⟨w.heap.size, 3, none⟩ (.slice none 0 0) = w7 at h7 g7 ⊢
      clear n0 n1 n2 n3 f0 f1 f2 f3
      obtain ⟨n0, n1, n2, n3, nf⟩ := node_cells h7
      exact bodyPost_ret (v := .agg #[.int .i64 0, .int .i64 0, .int .i64 0, .slice none 0 0]) (by simp [results, Try.results30, go_sem, n0, n1, n2, n3]) rfl
        (by rw [HLF.out]; exact ⟨.slice none 0 0, rfl, .nil, RS.other H0.out HR3.out g7 (Nat.le_refl _), grown_fresh HG3.out g7 (Nat.le_refl _)⟩)
  · have t1 : decide ((X.T.length : Int) ≤ (u.i : Int)) = true := decide_eq_true (by omega)
    have t1n : decide (X.T.length ≤ u.i) = true := decide_eq_true (by omega)
    have hk0 : X.kind u.i = 0 := by unfold TS.kind; rw [List.getElem?_eq_none (by omega)]
    rw [hk0, if_neg (by decide)] at HLF
    clear hk0
    go_enter Try.func30, Try.ntmps30
    go_wp2_with fail
    refine H.out.mono ?_
    rintro e w2 ⟨rfl, hr, hg⟩
    obtain ⟨c0, c1, c2, c3, c4, fz⟩ := hr.cells
    have hh4 : w2.heap[w.heap.size]? = some (.cells #[.int .i64 0, .int .i64 0, .int .i64 0, .slice none 0 0] 34) :=
      (hg.block _ (by simp) (fun e => hne (Option.some.inj e).symm)).trans (heap_alloc_last w _)
    have HR := Lib.hid hr
    have HG := Lib.hid ((grown_alloc w _ (some R)).trans hg)
    have HH4 := Lib.hid hh4
    clear hr hg hh4
    go_wp2_with fail
    clear c0 c3 c4
    go_quiet (fail)
    go_wp2_with fail
    have HR' := Lib.hid (HR.out.drewN nq)
    have HG' := Lib.hid (HG.out.trans (grown_drew w2 nq (some R)))
    have HH4' : Hid ((w2.drewN nq).heap[w.heap.size]? = some (.cells #[.int .i64 0, .int .i64 0, .int .i64 0, .slice none 0 0] 34)) := Lib.hid (show (w2.drewN nq).heap[w.heap.size]? = _ from HH4.out)
    clear c1 c2 fz
    refine (fail_any 4 R _ tc S X u _ HR'.out hT (by omega)).mono ?_
    rintro e w3 ⟨rfl, hr3, hg3⟩
    have hh3 : w3.heap[w.heap.size]? = some (.cells #[.int .i64 0, .int .i64 0, .int .i64 0, .slice none 0 0] 34) :=
      (hg3.block _ (Array.getElem?_eq_some_iff.1 HH4'.out).1 (fun e => hne (Option.some.inj e).symm)).trans HH4'.out
    obtain ⟨n0, n1, n2, n3, nf⟩ := node_cells hh3
    have f0 := nf 0
    have f1 := nf 1
    have f2 := nf 2
    have f3 := nf 3
    clear nf
    have HH3 := Lib.hid hh3
    have HR3 := Lib.hid hr3
    have HG3 := Lib.hid (HG'.out.trans hg3)
    clear hh3 hr3 hg3
    go_wp2_with fail
    obtain ⟨h7, g7⟩ := store4 HH3.out (.int .i64 0) (.int .i64 0) (.int .i64 0) (.slice none 0 0)
    generalize (((w3.setCell ⟨w.heap.size, 0, none⟩ (.int .i64 0)).setCell ⟨w.heap.size, 1, none⟩ (.int .i64 0)).setCell ⟨w.heap.size, 2, none⟩ (.int .i64 0)).setCell ⟨w.heap.size, 3, none⟩ (.slice none 0 0) = w7 at h7 g7 ⊢
    clear n0 n1 n2 n3 f0 f1 f2 f3
    obtain ⟨n0, n1, n2, n3, nf⟩ := node_cells h7
    exact bodyPost_ret (v := .agg #[.int .i64 0, .int .i64 0, .int .i64 0, .slice none 0 0]) (by simp [results, Try.results30, go_sem, n0, n1, n2, n3]) rfl
      (by rw [HLF.out]; exact ⟨.slice none 0 0, rfl, .nil, RS.other H0.out HR3.out g7 (Nat.le_refl _), grown_fresh HG3.out g7 (Nat.le_refl _)⟩)
end Go.Proofs.Ytfjeikijmconoaa
