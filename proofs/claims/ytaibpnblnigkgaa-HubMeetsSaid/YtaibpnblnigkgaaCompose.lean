/-
  The contract of splice.Compose. Conditions: the parts lie where the arguments say.
-/
import Derived.Test.YtaibpnblnigkgaaBoth
import Derived.Deep.RegionWith
import Derived.Deep.DeepCutAuto
namespace Go.Proofs.Ytaibpnblnigkgaa
open Go.RowKit Gx

/-- two feeds and a builder, each in its own memory -/
structure CM (B0 lx hx gx ly hy gy base go : Nat) (w wr : World) (rx ry : List Part) (F : Nat → Prop) (st : Bst) (v : Value) : Prop where
  x : Fd wr lx hx gx rx
  y : Fd wr ly hy gy ry
  bd : Bd wr base F go st v
  bel : Below B0 w wr
  l0 : B0 ≤ lx
  l1 : hx ≤ ly
  l2 : hy ≤ base
  l3 : B0 ≤ w.heap.size

variable {B0 lx hx gx ly hy gy base go : Nat} {w wr w' : World} {rx ry : List Part} {F : Nat → Prop} {st : Bst} {v : Value}
theorem CM.below (h : CM B0 lx hx gx ly hy gy base go w wr rx ry F st v) (hb : Below wr.heap.size wr w') : CM B0 lx hx gx ly hy gy base go w w' rx ry F st v :=
  ⟨h.x.below hb, h.y.below hb, h.bd.keep (S := fun _ => False) (Chg.of_below hb) (fun _ _ f => f), h.bel.trans (hb.mono (Nat.le_trans h.l3 h.bel.size)), h.l0, h.l1, h.l2, h.l3⟩
theorem CM.tookX (h : CM B0 lx hx gx ly hy gy base go w wr rx ry F st v) {rx' : List Part} (hf : Fd w' lx hx gx rx') (hc : Chg (fun k => lx ≤ k ∧ k < hx) wr w') : CM B0 lx hx gx ly hy gy base go w w' rx' ry F st v := by
  have h1 := h.l1
  have h2 := h.l2
  have h4 := h.y.lg
  refine ⟨hf, h.y.keep hc (fun k h3 _ h => by omega), h.bd.keep hc (fun k hk h6 => by have := (h.bd.low k hk).1; omega), h.bel.trans (hc.below (Nat.le_trans h.l3 h.bel.size) (fun i hi => Nat.le_trans h.l0 hi.1)), h.l0, h.l1, h.l2, h.l3⟩
theorem CM.tookY (h : CM B0 lx hx gx ly hy gy base go w wr rx ry F st v) {ry' : List Part} (hf : Fd w' ly hy gy ry') (hc : Chg (fun k => ly ≤ k ∧ k < hy) wr w') : CM B0 lx hx gx ly hy gy base go w w' rx ry' F st v := by
  have h0 := h.l0
  have h1 := h.l1
  have h2 := h.l2
  have h4 := h.x.lg
  refine ⟨h.x.keep hc (fun k _ h3 h => by omega), hf, h.bd.keep hc (fun k hk h6 => by have := (h.bd.low k hk).1; omega), h.bel.trans (hc.below (Nat.le_trans h.l3 h.bel.size) (fun i hi => by omega)), h.l0, h.l1, h.l2, h.l3⟩
theorem CM.added (h : CM B0 lx hx gx ly hy gy base go w wr rx ry F st v) {F' : Nat → Prop} {st' : Bst} {v' : Value} (hb : Bd w' base F' go st' v') (hc : Chg F wr w') : CM B0 lx hx gx ly hy gy base go w w' rx ry F' st' v' := by
  have h0 := h.l0
  have h1 := h.l1
  have h2 := h.l2
  have h4 := h.x.lg
  have h5 := h.y.lg
  have hF : ∀ k, F k → base ≤ k := fun k hk => (h.bd.low k hk).1
  refine ⟨h.x.keep hc (fun k _ h3 h => by have := hF k h; omega), h.y.keep hc (fun k _ h3 h => by have := hF k h; omega), hb, h.bel.trans (hc.below (Nat.le_trans h.l3 h.bel.size) (fun i hi => by have := hF i hi; omega)), h.l0, h.l1, h.l2, h.l3⟩

theorem CM.base_lo (h : CM B0 lx hx gx ly hy gy base go w wr rx ry F st v) : B0 ≤ base := by
  have := h.l0
  have := h.l1
  have := h.l2
  have := h.x.lg.1
  have := h.x.lg.2
  have := h.y.lg.1
  have := h.y.lg.2
  omega
theorem CM.base_le (h : CM B0 lx hx gx ly hy gy base go w wr rx ry F st v) : base ≤ wr.heap.size := by
  have := h.bd.low go h.bd.fg
  omega
theorem CM.boxed (h : CM B0 lx hx gx ly hy gy base go w wr rx ry F st v) {S : Nat → Prop} (hc : Chg S wr w') (hS : ∀ k, S k → hy ≤ k ∧ ¬ F k ∧ B0 ≤ k) : CM B0 lx hx gx ly hy gy base go w w' rx ry F st v := by
  have h1 := h.l1
  have h4 := h.x.lg
  have h5 := h.y.lg
  exact ⟨h.x.keep hc (fun k _ h3 h => by have := (hS k h).1; omega), h.y.keep hc (fun k _ h3 h => by have := (hS k h).1; omega), h.bd.keep hc (fun k hk h => (hS k h).2.1 hk), h.bel.trans (hc.below (Nat.le_trans h.l3 h.bel.size) (fun i hi => (hS i hi).2.2)), h.l0, h.l1, h.l2, h.l3⟩
theorem CM.done (h : CM B0 lx hx gx ly hy gy base go w wr rx ry F st v) (hc : Chg F wr w') : Below B0 w w' := by
  have h0 := h.l0
  have h1 := h.l1
  have h2 := h.l2
  have h4 := h.x.lg
  have h5 := h.y.lg
  exact h.bel.trans (hc.below (Nat.le_trans h.l3 h.bel.size) (fun i hi => by have := (h.bd.low i hi).1; omega))
theorem Fd.len {w : World} {lo hi g : Nat} {rem : List Part} (h : Fd w lo hi g rem) : lenOf ((w.cell? ⟨g, 0, none⟩).getD (.int .i64 0)) = rem.length := by
  obtain ⟨⟨ad, cap, h1, -⟩, -⟩ := h
  rw [cell_of_row w g 0 _ _ _ h1]; rfl

theorem next_q (w : World) (lo hi g : Nat) (rem : List Part) (p : Part) (h : Fd w lo hi g rem) (hp : headP rem = p) :
    Calls Try.prog 34 #[.pointer (some ⟨g, 0, none⟩)] w fun e w' => e = .returned (.agg #[.int .i64 p.1, .int .i64 p.2.1, .string (bs p.2.2)]) ∧ Below w.heap.size w w' := by
  subst hp
  exact next_any w lo hi g rem h

theorem size_ex (w : World) (p : Part) (N : Nat) (h : okP p) (h2 : p.2.1 ≤ 90000) (h3 : p.2.2.length ≤ 90000) (hN : (ex1 p).length = N) :
    Calls Try.prog 37 #[.agg #[.int .i64 p.1, .int .i64 p.2.1, .string (bs p.2.2)]] w fun e w' => e = .returned (.int .i64 N) ∧ w.alloc (.cells #[.int .i64 p.1, .int .i64 p.2.1, .string (bs p.2.2)] 54) = w' := by
  subst hN
  have hl := len_ex1 p h
  rw [hl]
  obtain ⟨-, h1, -, -⟩ := h
  clear hl
  obtain ⟨k, n, s⟩ := p
  simp only at h1 h2 h3 ⊢
  obtain ⟨n, rfl⟩ : ∃ m : Nat, n = m := ⟨n.toNat, by omega⟩
  have HZ := Lib.hid (bs_size s)
  have hz : (bs s).size ≤ 90000 := by rw [HZ.out]; exact h3
  go_enter Try.func37, Try.ntmps37
  go_wp2
  go_ret
  exact ⟨by rw [HZ.out]; rfl, rfl⟩

theorem part_bd {q : Part} {l : List Part} (h : ∀ x ∈ l, nzP x) (hm : q ∈ l) (hl : (ex l).length ≤ 40000) : okP q ∧ (ex1 q).length ≤ 40000 ∧ q.2.1 ≤ 90000 ∧ q.2.2.length ≤ 90000 := by
  have h1 := (h q hm).1
  have h2 := len_mem hm
  have h3 := len_ex1 q h1
  have h4 := h1.2.1
  exact ⟨h1, by omega, by omega, by omega⟩
theorem headP_cons {l : List Part} {p : Part} (h : p = headP l) (h0 : p.1 ≠ 0) : ∃ r, l = p :: r := by
  cases l with
  | nil => subst h; exact absurd rfl h0
  | cons q r => exact ⟨r, by simp only [headP] at h; rw [h]⟩

theorem kz (k c : Int) : (k = c ∧ decide (k = c) = true ∧ (k == c) = true ∧ (k != c) = false) ∨ (k ≠ c ∧ decide (k = c) = false ∧ (k == c) = false ∧ (k != c) = true) := by
  by_cases h : k = c
  · exact .inl ⟨h, decide_eq_true h, by simpa using h, by simpa using h⟩
  · exact .inr ⟨h, decide_eq_false h, by simpa using h, by simpa using h⟩
theorem kne {k c : Int} (h : k ≠ c) : decide (k = c) = false ∧ (k == c) = false ∧ (k != c) = true := ⟨decide_eq_false h, by simpa using h, by simpa using h⟩
theorem field_kind (k n : Int) (s : ByteArray) (w : World) : (Instr.field 54 (.agg #[.int .i64 k, .int .i64 n, .string s]) 0).run Try.prog w = .ok (.int .i64 k) w := by kernel_rfl

/-- the box of a part -/
abbrev boxP (p : Part) : Obj := .cells #[.int .i64 p.1, .int .i64 p.2.1, .string (bs p.2.2)] 54
theorem box_below (w : World) (p : Part) : Below w.heap.size w (w.alloc (boxP p)) := (Below.refl _ _).alloc (Nat.le_refl _) _

/-- two parts lie in blocks of their own -/
structure Boxes (b : Nat) (p q : Part) (w : World) : Prop where
  c0 : w.cell? ⟨b, 0, none⟩ = some (.int .i64 p.1)
  c1 : w.cell? ⟨b, 1, none⟩ = some (.int .i64 p.2.1)
  c2 : w.cell? ⟨b, 2, none⟩ = some (.string (bs p.2.2))
  d0 : w.cell? ⟨b + 1, 0, none⟩ = some (.int .i64 q.1)
  d1 : w.cell? ⟨b + 1, 1, none⟩ = some (.int .i64 q.2.1)
  d2 : w.cell? ⟨b + 1, 2, none⟩ = some (.string (bs q.2.2))
  f0 : ∀ j, w.frozen? ⟨b, j, none⟩ = false
  f1 : ∀ j, w.frozen? ⟨b + 1, j, none⟩ = false
  lt : b + 1 < w.heap.size
theorem Boxes.chg {b : Nat} {p q : Part} {w w' : World} {S : Nat → Prop} (h : Boxes b p q w) (hc : Chg S w w') (h0 : ¬ S b) (h1 : ¬ S (b + 1)) : Boxes b p q w' := by
  have hl := h.lt
  have e0 : ∀ j, w'.cell? ⟨b, j, none⟩ = w.cell? ⟨b, j, none⟩ := fun j => hc.cell (a := ⟨b, j, none⟩) (by show b < _; omega) h0
  have e1 : ∀ j, w'.cell? ⟨b + 1, j, none⟩ = w.cell? ⟨b + 1, j, none⟩ := fun j => hc.cell (a := ⟨b + 1, j, none⟩) (by show b + 1 < _; omega) h1
  have g0 : ∀ j, w'.frozen? ⟨b, j, none⟩ = w.frozen? ⟨b, j, none⟩ := fun j => hc.frozen (a := ⟨b, j, none⟩) (by show b < _; omega) h0
  have g1 : ∀ j, w'.frozen? ⟨b + 1, j, none⟩ = w.frozen? ⟨b + 1, j, none⟩ := fun j => hc.frozen (a := ⟨b + 1, j, none⟩) (by show b + 1 < _; omega) h1
  exact ⟨(e0 0).trans h.c0, (e0 1).trans h.c1, (e0 2).trans h.c2, (e1 0).trans h.d0, (e1 1).trans h.d1, (e1 2).trans h.d2, fun j => (g0 j).trans (h.f0 j), fun j => (g1 j).trans (h.f1 j), Nat.lt_of_lt_of_le hl hc.size⟩
theorem boxes_init (w : World) (p q : Part) : Boxes w.heap.size p q ((w.alloc (boxP p)).alloc (boxP q)) := by
  have hs : (w.alloc (boxP p)).heap.size = w.heap.size + 1 := by simp
  have e0 : ∀ j, ((w.alloc (boxP p)).alloc (boxP q)).cell? ⟨w.heap.size, j, none⟩ = (w.alloc (boxP p)).cell? ⟨w.heap.size, j, none⟩ := fun j => World.cell?_alloc_past _ _ j (by omega)
  have h0 : ((w.alloc (boxP p)).alloc (boxP q)).heap[w.heap.size]? = some (boxP p) := (heap_alloc_old _ _ (by omega)).trans (heap_alloc_new w _)
  have h1 : ((w.alloc (boxP p)).alloc (boxP q)).heap[w.heap.size + 1]? = some (boxP q) := by rw [← hs]; exact heap_alloc_new _ _
  refine ⟨?_, ?_, ?_, ?_, ?_, ?_, fun j => frozen_of_row _ _ j _ _ h0, fun j => frozen_of_row _ _ j _ _ h1, by simp⟩
  · rw [cell_of_row _ _ 0 _ _ _ h0]; rfl
  · rw [cell_of_row _ _ 1 _ _ _ h0]; rfl
  · rw [cell_of_row _ _ 2 _ _ _ h0]; rfl
  · rw [cell_of_row _ _ 0 _ _ _ h1]; rfl
  · rw [cell_of_row _ _ 1 _ _ _ h1]; rfl
  · rw [cell_of_row _ _ 2 _ _ _ h1]; rfl

theorem setCell_froz (w : World) (a : Addr) (u : Value) (b j : Nat) : (w.setCell a u).frozen? ⟨b, j, none⟩ = w.frozen? ⟨b, j, none⟩ := World.frozen?_setCell _ _ _ _
theorem boxes_put {b : Nat} {p q : Part} {w : World} (h : Boxes b p q w) (p' q' : Part) :
    Boxes b p' q' ((((((w.setCell ⟨b, 0, none⟩ (.int .i64 p'.1)).setCell ⟨b, 1, none⟩ (.int .i64 p'.2.1)).setCell ⟨b, 2, none⟩ (.string (bs p'.2.2))).setCell ⟨b + 1, 0, none⟩ (.int .i64 q'.1)).setCell ⟨b + 1, 1, none⟩ (.int .i64 q'.2.1)).setCell ⟨b + 1, 2, none⟩ (.string (bs q'.2.2))) ∧
    Chg (fun k => k = b ∨ k = b + 1) w ((((((w.setCell ⟨b, 0, none⟩ (.int .i64 p'.1)).setCell ⟨b, 1, none⟩ (.int .i64 p'.2.1)).setCell ⟨b, 2, none⟩ (.string (bs p'.2.2))).setCell ⟨b + 1, 0, none⟩ (.int .i64 q'.1)).setCell ⟨b + 1, 1, none⟩ (.int .i64 q'.2.1)).setCell ⟨b + 1, 2, none⟩ (.string (bs q'.2.2))) := by
  have hne : ∀ (i j : Nat) (x y : Nat), (x, i) ≠ (y, j) → (⟨x, i, none⟩ : Addr) ≠ ⟨y, j, none⟩ := by
    intro i j x y hxy e
    simp only [Addr.mk.injEq, and_true] at e
    exact hxy (by rw [e.1, e.2])
  have far : ∀ (W : World) (x i y j : Nat) (u : Value), (x, i) ≠ (y, j) → (W.setCell ⟨x, i, none⟩ u).cell? ⟨y, j, none⟩ = W.cell? ⟨y, j, none⟩ := fun W x i y j u hxy => World.cell?_setCell_other _ _ _ _ (fun e => hxy (by simp only [Addr.mk.injEq, and_true] at e; rw [e.1, e.2]))
  have near : ∀ (W : World) (x i : Nat) (u o : Value), W.cell? ⟨x, i, none⟩ = some o → (W.setCell ⟨x, i, none⟩ u).cell? ⟨x, i, none⟩ = some u := fun W x i u o ho => World.cell?_setCell_same _ _ _ ho
  refine ⟨⟨?_, ?_, ?_, ?_, ?_, ?_, fun j => ?_, fun j => ?_, ?_⟩, ?_⟩
  · rw [far _ _ _ _ _ _ (by simp), far _ _ _ _ _ _ (by simp), far _ _ _ _ _ _ (by simp), far _ _ _ _ _ _ (by simp), far _ _ _ _ _ _ (by simp)]
    exact near _ _ _ _ _ h.c0
  · rw [far _ _ _ _ _ _ (by simp), far _ _ _ _ _ _ (by simp), far _ _ _ _ _ _ (by simp), far _ _ _ _ _ _ (by simp)]
    exact near _ _ _ _ _ ((far _ _ _ _ _ _ (by simp)).trans h.c1)
  · rw [far _ _ _ _ _ _ (by simp), far _ _ _ _ _ _ (by simp), far _ _ _ _ _ _ (by simp)]
    exact near _ _ _ _ _ ((far _ _ _ _ _ _ (by simp)).trans ((far _ _ _ _ _ _ (by simp)).trans h.c2))
  · rw [far _ _ _ _ _ _ (by simp), far _ _ _ _ _ _ (by simp)]
    exact near _ _ _ _ _ ((far _ _ _ _ _ _ (by simp)).trans ((far _ _ _ _ _ _ (by simp)).trans ((far _ _ _ _ _ _ (by simp)).trans h.d0)))
  · rw [far _ _ _ _ _ _ (by simp)]
    exact near _ _ _ _ _ ((far _ _ _ _ _ _ (by simp)).trans ((far _ _ _ _ _ _ (by simp)).trans ((far _ _ _ _ _ _ (by simp)).trans ((far _ _ _ _ _ _ (by simp)).trans h.d1))))
  · exact near _ _ _ _ _ ((far _ _ _ _ _ _ (by simp)).trans ((far _ _ _ _ _ _ (by simp)).trans ((far _ _ _ _ _ _ (by simp)).trans ((far _ _ _ _ _ _ (by simp)).trans ((far _ _ _ _ _ _ (by simp)).trans h.d2)))))
  · rw [setCell_froz, setCell_froz, setCell_froz, setCell_froz, setCell_froz, setCell_froz]; exact h.f0 j
  · rw [setCell_froz, setCell_froz, setCell_froz, setCell_froz, setCell_froz, setCell_froz]; exact h.f1 j
  · have := h.lt; simpa [World.setCell] using this
  · exact ((((((Chg.refl _ w).set (.inl (.inl rfl)) _).set (.inl (.inl rfl)) _).set (.inl (.inl rfl)) _).set (.inl (.inr rfl)) _).set (.inl (.inr rfl)) _).set (.inl (.inr rfl)) _

/-- what Compose hands back: the parts, or that they are too large -/
def ComposePost (R : List Part) (w : World) (e : Ending) (w' : World) : Prop :=
  (chk R = 0 → PartsPost R w e w') ∧ (chk R ≠ 0 → e = .returned (.tuple #[.slice none 0 0, .int .i64 2]) ∧ Below w.heap.size w w')


set_option maxHeartbeats 8000000 in
set_option maxRecDepth 100000 in
theorem Compose_any (ad bd : Option Addr) (ca cb : Nat) (l m : List Part) (w : World) (h : PR w ad ca l) (g : PR w bd cb m) (hl : chk l = 0) (hm : chk m = 0) (hmo : U.makes (ex l) = U.over (ex m)) :
    Calls Try.prog 25 #[.slice ad l.length ca, .slice bd m.length cb] w (ComposePost (nf (comp (ex (nf (ex l))) (ex (nf (ex m))))) w) := by
  have H1 := both_ok ad bd ca cb l m w h g hl hm
  have H2 := fun w0 (hb : Below w.heap.size w w0) => check_ok ad ca l w0 (h.keep hb) hl
  have H3 := fun w0 (hb : Below w.heap.size w w0) => check_ok bd cb m w0 (g.keep hb) hm
  rw [← hmo] at H3
  have s1 := same_nf (ex l)
  have s2 := same_nf (ex m)
  have hAB : U.makes (ex (nf (ex l))) = U.over (ex (nf (ex m))) := by rw [s1.makes, s2.over, hmo]
  obtain ⟨-, -, oA, mA⟩ := chk_zero.1 (chk_nf hl)
  obtain ⟨-, -, oB, mB⟩ := chk_zero.1 (chk_nf hm)
  have lA := len_le (ex (nf (ex l)))
  have lB := len_le (ex (nf (ex m)))
  have ST0 : CompSt (ex (nf (ex l))) (ex (nf (ex m))) [] (nf (ex l)) (nf (ex m)) := ⟨rfl, hAB, nz_nf _, nz_nf _, Nat.le_refl _, Nat.le_refl _⟩
  obtain ⟨X, hX⟩ : ∃ A, A = nf (ex l) := ⟨_, rfl⟩
  obtain ⟨Y, hY⟩ : ∃ A, A = nf (ex m) := ⟨_, rfl⟩
  rw [← hX, ← hY] at H1
  rw [← hX, ← hY] at ST0 hAB
  rw [← hX] at oA mA lA
  rw [← hY] at oB mB lB
  rw [← hX, ← hY]
  obtain ⟨A, hA⟩ : ∃ A, A = ex X := ⟨_, rfl⟩
  obtain ⟨B, hB⟩ : ∃ A, A = ex Y := ⟨_, rfl⟩
  rw [← hA, ← hB] at ST0 hAB
  rw [← hA] at oA mA lA
  rw [← hB] at oB mB lB
  rw [← hA, ← hB]
  obtain ⟨o1, ho1⟩ : ∃ A, A = U.over (ex l) := ⟨_, rfl⟩
  obtain ⟨m1, hm1⟩ : ∃ A, A = U.makes (ex l) := ⟨_, rfl⟩
  obtain ⟨m2, hm2⟩ : ∃ A, A = U.makes (ex m) := ⟨_, rfl⟩
  obtain ⟨n, hn⟩ : ∃ A, A = l.length := ⟨_, rfl⟩
  obtain ⟨k, hk⟩ : ∃ A, A = m.length := ⟨_, rfl⟩
  rw [← hn, ← hk] at H1 ⊢
  rw [← ho1, ← hm1, ← hn] at H2
  rw [← hm1, ← hm2, ← hk] at H3
  replace H1 := Lib.hid H1
  replace H2 := Lib.hid H2
  replace H3 := Lib.hid H3
  have HS := Lib.hid ST0
  have HAB := Lib.hid hAB
  clear h g hl hm hmo s1 s2 hX hY hA hB ho1 hm1 hm2 hn hk ST0 hAB
  have lA2 : A.length ≤ 40000 := by omega
  have lB2 : B.length ≤ 40000 := by omega
  clear lA lB
  go_enter Try.func25, Try.ntmps25
  go_wp2_with fail
  refine H1.out.mono ?_
  rintro e w1 ⟨gx, gy, lx, hx, ly, hy, rfl, hfx, hfy, hb0, hxy, hb⟩
  have FX1 := Lib.hid hfx
  have FY1 := Lib.hid hfy
  have B1 := Lib.hid hb
  clear hfx hfy hb H1
  go_wp2_with fail
  refine (H2.out w1 B1.out).mono ?_
  rintro e w2 ⟨rfl, hb⟩
  have FX2 := Lib.hid (FX1.out.below hb)
  have FY2 := Lib.hid (FY1.out.below hb)
  have B2 := Lib.hid (B1.out.trans (hb.mono B1.out.size))
  clear hb B1 FX1 FY1 H2
  go_wp2_with fail
  refine (H3.out w2 B2.out).mono ?_
  rintro e w3 ⟨rfl, hb⟩
  have FX3 := Lib.hid (FX2.out.below hb)
  have FY3 := Lib.hid (FY2.out.below hb)
  have B3 := Lib.hid (B2.out.trans (hb.mono B2.out.size))
  clear hb B2 FX2 FY2 H3
  have hbd := init_bd w3
  obtain ⟨w4, hw4⟩ : ∃ w4, w4 = w3.alloc (.cells #[.slice none 0 0, .int .i64 0, .string ⟨#[]⟩] 86) := ⟨_, rfl⟩
  have h34 : Below w3.heap.size w3 w4 := by rw [hw4]; exact (Below.refl _ w3).alloc (Nat.le_refl _) _
  rw [← hw4] at hbd
  have hyt := FY3.out.top
  have hcm : CM w.heap.size lx hx gx ly hy gy w3.heap.size w3.heap.size w w4 X Y _ (stU []) (.slice none 0 0) :=
    ⟨FX3.out.below h34, FY3.out.below h34, hbd, B3.out.trans (h34.mono B3.out.size), hb0, hxy, hyt, Nat.le_refl _⟩
  have HCM := Lib.hid hcm
  have HW := Lib.hid hw4
  clear hbd h34 hcm hyt hb0 hxy FX3 FY3 B3
  go_wp2
  rw [← HW.out]
  clear HW hw4
  go_loopw [18] (fun u18 wr => ∃ (us : List U) (rx ry : List Part) (F : Nat → Prop) (v : Value), Hid (CM w.heap.size lx hx gx ly hy gy w3.heap.size w3.heap.size w wr rx ry F (stU us) v) ∧ Hid (CompSt A B us rx ry))
    (fun _ wr => lenOf ((wr.cell? ⟨gx, 0, none⟩).getD (.int .i64 0)) + lenOf ((wr.cell? ⟨gy, 0, none⟩).getD (.int .i64 0)))
  case atStart => exact ⟨[], X, Y, _, _, HCM, HS⟩
  case round =>
    obtain ⟨us, rx, ry, F, v, HC, HT⟩ := hrel
    clear HCM HS
    have hmeas := Lib.hid (show lenOf ((wr.cell? ⟨gx, 0, none⟩).getD (.int .i64 0)) + lenOf ((wr.cell? ⟨gy, 0, none⟩).getD (.int .i64 0)) = rx.length + ry.length by rw [HC.out.x.len, HC.out.y.len])
    obtain ⟨⟨kx, Nx, sx⟩, hpx⟩ : ∃ q, q = headP rx := ⟨_, rfl⟩
    obtain ⟨⟨ky, Ny, sy⟩, hpy⟩ : ∃ q, q = headP ry := ⟨_, rfl⟩
    have hsm := HT.out.small HAB.out
    have hus : U.over us + U.makes us ≤ 40000 := by omega
    have HUS := Lib.hid hus
    clear hsm hus
    have hlx := Nat.le_trans HT.out.lx lA2
    have hly := Nat.le_trans HT.out.ly lB2
    by_cases hk3 : ky = 3
    · subst hk3
      obtain ⟨ry', rfl⟩ := headP_cons hpy (by simp)
      obtain ⟨hq, hql, hq1, hq2⟩ := part_bd HT.out.ny (List.mem_cons_self) hly
      obtain ⟨N, hN⟩ : ∃ N, N = (ex1 (3, Ny, sy)).length := ⟨_, rfl⟩
      have hsmall := Lib.hid (small_of us (3, Ny, sy) (by have := HUS.out; omega) hq1 hq2)
      have hst := Lib.hid (stU_add us (3, Ny, sy) hq)
      have HT2 := Lib.hid (HT.out.put rfl)
      have HN := Lib.hid hN
      have HQ := Lib.hid hq
      have HPX := Lib.hid hpx
      have hq1' := Lib.hid hq1
      have hq2' := Lib.hid hq2
      clear hq hN hpx hpy hql hlx hly hq1 hq2 HT
      rcases kz kx 0 with ⟨hk0, hc3, hc4, hc5⟩ | ⟨hk0, hc3, hc4, hc5⟩
      all_goals
        have HK0 := Lib.hid hk0
        clear hk0
        have hfd := field_kind
        go_wp2_with fail
        refine (next_q wr lx hx gx rx (kx, Nx, sx) HC.out.x HPX.out.symm).mono ?_
        rintro e w5 ⟨rfl, hb⟩
        have C5 := Lib.hid (HC.out.below hb)
        clear hb
        go_wp2_with fail
        first
          | (have hz : kx = 0 := HK0.out
             clear hz
             refine (next_q w5 ly hy gy _ (3, Ny, sy) C5.out.y rfl).mono ?_
             rintro e w6 ⟨rfl, hb⟩
             have C6 := Lib.hid (C5.out.below hb)
             clear hb
             go_wp2_with fail)
          | have C6 := C5
        clear hc3 hc4 hc5
        refine (next_q _ lx hx gx rx (kx, Nx, sx) C6.out.x HPX.out.symm).mono ?_
        rintro e w7 ⟨rfl, hb⟩
        have C7 := Lib.hid (C6.out.below hb)
        clear hb
        go_wp2_with fail
        refine (next_q w7 ly hy gy _ (3, Ny, sy) C7.out.y rfl).mono ?_
        rintro e w8 ⟨rfl, hb⟩
        have C8 := Lib.hid (C7.out.below hb)
        have C9 := Lib.hid ((C8.out.below (box_below w8 (kx, Nx, sx))).below (box_below _ (3, Ny, sy)))
        clear hb
        go_wp2_with fail
        refine (size_ex _ (3, Ny, sy) N HQ.out hq1'.out hq2'.out HN.out.symm).mono ?_
        rintro e w9 ⟨rfl, rfl⟩
        have C10 := Lib.hid (C9.out.below (box_below _ (3, Ny, sy)))
        go_wp2_with fail
        refine (take_all _ ly hy gy (3, Ny, sy) ry' N C10.out.y HQ.out hq1'.out hq2'.out HN.out).mono ?_
        rintro e w10 ⟨rfl, hf, hch⟩
        have C11 := Lib.hid (C10.out.tookY hf hch)
        clear hf hch
        go_wp2_with fail
        refine (add_any _ _ F _ _ v (3, Ny, sy) C11.out.bd C11.out.base_le HQ.out hsmall.out).mono ?_
        rintro e w11 ⟨rfl, F2, v2, hb2, hF2, hc2⟩
        rw [hst.out] at hb2
        have C12 := Lib.hid (C11.out.added hb2 hc2)
        clear hb2 hF2 hc2 HC C5 C6 C7 C8 C9 C10 C11
        go_wp2
        go_roundw
        case rel => exact ⟨_, rx, ry', F2, v2, C12, HT2⟩
        case measure => rw [C12.out.x.len, C12.out.y.len, hmeas.out]; simp
    by_cases hk2 : kx = 2
    · subst hk2
      obtain ⟨rx', rfl⟩ := headP_cons hpx (by simp)
      obtain ⟨hq, hql, hq1, hq2⟩ := part_bd HT.out.nx (List.mem_cons_self) hlx
      obtain ⟨N, hN⟩ : ∃ N, N = (ex1 (2, Nx, sx)).length := ⟨_, rfl⟩
      have hsmall := Lib.hid (small_of us (2, Nx, sx) (by have := HUS.out; omega) hq1 hq2)
      have hst := Lib.hid (stU_add us (2, Nx, sx) hq)
      have HT2 := Lib.hid (HT.out.cut rfl (by rw [← hpy]; exact hk3))
      have HN := Lib.hid hN
      have HQ := Lib.hid hq
      have HPY := Lib.hid hpy
      have hq1' := Lib.hid hq1
      have hq2' := Lib.hid hq2
      obtain ⟨-, hc3, hc4, hc5⟩ : ky ≠ 3 ∧ decide (ky = 3) = false ∧ (ky == 3) = false ∧ (ky != 3) = true := by
        rcases kz ky 3 with h | h
        · exact absurd h.1 hk3
        · exact h
      clear hq hN hpx hpy hql hlx hly hq1 hq2 HT hk3
      have hfd := field_kind
      go_wp2_with fail
      refine (next_q wr lx hx gx _ (2, Nx, sx) HC.out.x rfl).mono ?_
      rintro e w5 ⟨rfl, hb⟩
      have C5 := Lib.hid (HC.out.below hb)
      clear hb
      go_wp2_with fail
      refine (next_q w5 lx hx gx _ (2, Nx, sx) C5.out.x rfl).mono ?_
      rintro e w7 ⟨rfl, hb⟩
      have C7 := Lib.hid (C5.out.below hb)
      clear hb
      go_wp2_with fail
      refine (next_q w7 ly hy gy _ (ky, Ny, sy) C7.out.y HPY.out.symm).mono ?_
      rintro e w8 ⟨rfl, hb⟩
      have C8 := Lib.hid (C7.out.below hb)
      have C9 := Lib.hid ((C8.out.below (box_below w8 (2, Nx, sx))).below (box_below _ (ky, Ny, sy)))
      clear hb
      go_wp2_with fail
      refine (size_ex _ (2, Nx, sx) N HQ.out hq1'.out hq2'.out HN.out.symm).mono ?_
      rintro e w9 ⟨rfl, rfl⟩
      have C10 := Lib.hid (C9.out.below (box_below _ (2, Nx, sx)))
      go_wp2_with fail
      refine (take_all _ lx hx gx (2, Nx, sx) rx' N C10.out.x HQ.out hq1'.out hq2'.out HN.out).mono ?_
      rintro e w10 ⟨rfl, hf, hch⟩
      have C11 := Lib.hid (C10.out.tookX hf hch)
      clear hf hch
      go_wp2_with fail
      refine (add_any _ _ F _ _ v (2, Nx, sx) C11.out.bd C11.out.base_le HQ.out hsmall.out).mono ?_
      rintro e w11 ⟨rfl, F2, v2, hb2, hF2, hc2⟩
      rw [hst.out] at hb2
      have C12 := Lib.hid (C11.out.added hb2 hc2)
      clear hb2 hF2 hc2 HC C5 C7 C8 C9 C10 C11
      go_wp2
      go_roundw
      case rel => exact ⟨_, rx', ry, F2, v2, C12, HT2⟩
      case measure => rw [C12.out.x.len, C12.out.y.len, hmeas.out]; simp
    by_cases hend : kx = 0 ∧ ky = 0
    · obtain ⟨rfl, rfl⟩ := hend
      obtain rfl : rx = [] := headP_zero HT.out.nx (by rw [← hpx])
      obtain rfl : ry = [] := headP_zero HT.out.ny (by rw [← hpy])
      obtain ⟨rfl, rfl⟩ : Nx = 0 ∧ sx = [] := by simp [headP] at hpx; exact hpx
      obtain ⟨rfl, rfl⟩ : Ny = 0 ∧ sy = [] := by simp [headP] at hpy; exact hpy
      have hR : us = comp A B := by have h1 := HT.out.eq; simp [ex, comp] at h1; exact h1.symm
      have HR := Lib.hid hR
      have hsl := st_len us
      have hus := HUS.out
      clear hpx hpy hR hlx hly hk3 hk2
      have hfd := field_kind
      go_wp2_with fail
      refine (next_q wr lx hx gx _ (0, 0, []) HC.out.x rfl).mono ?_
      rintro e w5 ⟨rfl, hb⟩
      have C5 := Lib.hid (HC.out.below hb)
      clear hb
      go_wp2_with fail
      refine (next_q w5 ly hy gy _ (0, 0, []) C5.out.y rfl).mono ?_
      rintro e w6 ⟨rfl, hb⟩
      have C6 := Lib.hid (C5.out.below hb)
      clear hb
      go_wp2_with fail
      refine (done_any w6 _ F _ _ v C6.out.bd C6.out.base_le (by omega) (by omega)).mono ?_
      rintro e w7 ⟨⟨vo, vc, rfl, hown⟩, hc2⟩
      have hb7 := C6.out.done hc2
      have hR : doneS (stU us) = nf (comp A B) := by rw [HR.out]; rfl
      rw [hR] at hown ⊢
      obtain ⟨mo, mc, hv, hp, hfr⟩ := PR.own hown rfl (wf_nf (us := comp A B) (by rw [← HR.out]; omega))
      rw [hv]
      have HFR : Hid (∀ a, mo = some a → w.heap.size ≤ a.block) := Lib.hid fun a ha => Nat.le_trans C6.out.base_lo (hfr a ha)
      clear hfr
      obtain ⟨R, hRR⟩ : ∃ R, R = nf (comp A B) := ⟨_, rfl⟩
      rw [← hRR] at hp ⊢
      have HP := Lib.hid hp
      have HB7 := Lib.hid hb7
      have HRR := Lib.hid hRR
      clear hown hc2 hb7 hR hv hp hRR HC C5 C6 hsl hus
      by_cases hchk : chk R = 0
      · have HCHK := Lib.hid hchk
        clear hchk
        go_wp2_with fail
        refine (good_ok _ _ R w7 HP.out HCHK.out).mono ?_
        rintro e w8 ⟨rfl, hb⟩
        have HP8 := Lib.hid (HP.out.keep hb)
        have HB8 := Lib.hid (HB7.out.trans (hb.mono HB7.out.size))
        clear hb
        go_wp2
        go_ret2
        rw [← HRR.out]
        exact ⟨fun _ => ⟨_, _, rfl, ⟨HP8.out, HFR.out⟩, HB8.out⟩, fun h => absurd HCHK.out h⟩
      · have HCHK := Lib.hid hchk
        clear hchk
        go_wp2_with fail
        refine (good_no _ _ R w7 HP.out HCHK.out).mono ?_
        rintro e w8 ⟨rfl, hb⟩
        have HB8 := Lib.hid (HB7.out.trans (hb.mono HB7.out.size))
        clear hb
        go_wp2
        go_ret2
        rw [← HRR.out]
        exact ⟨fun h => absurd h HCHK.out, fun _ => ⟨rfl, HB8.out⟩⟩
    · have hne : (headP rx).1 ≠ 0 ∨ (headP ry).1 ≠ 0 := by
        rw [← hpx, ← hpy]
        simp only
        by_cases h : kx = 0
        · exact .inr (fun h2 => hend ⟨h, h2⟩)
        · exact .inl h
      obtain ⟨p, rx', q, ry', rfl, rfl, hp13, hq12⟩ := comp_next HT.out.nx HT.out.ny HT.out.ml (by rw [← hpy]; exact hk3) (by rw [← hpx]; exact hk2) hne
      simp only [headP] at hpx hpy
      subst hpx hpy
      simp only at hp13 hq12
      obtain ⟨hp, hpl, hp1, hp2⟩ := part_bd HT.out.nx (List.mem_cons_self) hlx
      obtain ⟨hq, hql, hq1, hq2⟩ := part_bd HT.out.ny (List.mem_cons_self) hly
      obtain ⟨N, hN⟩ : ∃ N, N = (ex1 (kx, Nx, sx)).length := ⟨_, rfl⟩
      obtain ⟨M, hM⟩ : ∃ N, N = (ex1 (ky, Ny, sy)).length := ⟨_, rfl⟩
      obtain ⟨n, hn⟩ : ∃ n, n = min N M := ⟨_, rfl⟩
      have hn1 : n ≤ (ex1 (kx, Nx, sx)).length := by omega
      have hn2 : n ≤ (ex1 (ky, Ny, sy)).length := by omega
      have hpair := HT.out.pair hp13 hq12 n hn1 hn2
      obtain ⟨pt, hpt⟩ : ∃ p, p = takeP (kx, Nx, sx) n := ⟨_, rfl⟩
      obtain ⟨qt, hqt⟩ : ∃ p, p = takeP (ky, Ny, sy) n := ⟨_, rfl⟩
      have hpo := takeP_ok (kx, Nx, sx) n hp
      have hqo := takeP_ok (ky, Ny, sy) n hq
      have hpb := takeP_bd (kx, Nx, sx) n hp
      have hqb := takeP_bd (ky, Ny, sy) n hq
      have hlp := leftP_len (kx, Nx, sx) n
      have hlq := leftP_len (ky, Ny, sy) n
      have hlen : (leftP (kx, Nx, sx) n ++ rx').length + (leftP (ky, Ny, sy) n ++ ry').length < ((kx, Nx, sx) :: rx').length + ((ky, Ny, sy) :: ry').length := by
        simp only [List.length_append, List.length_cons]
        rcases Nat.le_total N M with h | h
        · have := hlp.2 (by omega); omega
        · have := hlq.2 (by omega); omega
      rw [← hpt] at hpair hpo hpb
      rw [← hqt] at hpair hqo hqb
      simp only at hpair
      have hpk : pt.1 = kx := by rw [hpt]; exact takeP_kind _ _
      have hqk : qt.1 = ky := by rw [hqt]; exact takeP_kind _ _
      have hsp := Lib.hid (small_of us pt (by have := HUS.out; omega) (by omega) (by omega))
      have hsq := Lib.hid (small_of us qt (by have := HUS.out; omega) (by omega) (by omega))
      have hstp := Lib.hid (stU_add us pt hpo)
      have hstq := Lib.hid (stU_add us qt hqo)
      have HPO := Lib.hid hpo
      have HQO := Lib.hid hqo
      have HT2 := Lib.hid hpair
      have HLEN := Lib.hid hlen
      have HN := Lib.hid hN
      have HM := Lib.hid hM
      have HQ := Lib.hid hq
      have HP := Lib.hid hp
      have HPT := Lib.hid hpt
      have HQT := Lib.hid hqt
      have hq1' := Lib.hid hq1
      have hq2' := Lib.hid hq2
      have hp1' := Lib.hid hp1
      have hp2' := Lib.hid hp2
      have HN1 := Lib.hid hn1
      have HN2 := Lib.hid hn2
      have HNM := Lib.hid hn
      have hN4 : N ≤ 40000 := by omega
      have hM4 : M ≤ 40000 := by omega
      clear hpo hqo hpb hqb hlp hlq hlen hpair hN hM hp hq hpl hql hp1 hp2 hq1 hq2 hn1 hn2 hlx hly HT hk3 hk2 hend hne hpt hqt hn
      obtain ⟨kp, Np, sp⟩ := pt
      obtain ⟨kq, Nq, sq⟩ := qt
      simp only at hpk hqk
      subst hpk hqk
      have hfd := field_kind
      obtain ⟨hx03, hx04, hx05⟩ := kne (show kp ≠ 0 by omega)
      obtain ⟨hx23, hx24, hx25⟩ := kne (show kp ≠ 2 by omega)
      obtain ⟨hy33, hy34, hy35⟩ := kne (show kq ≠ 3 by omega)
      have HP13 := Lib.hid hp13
      have HQ12 := Lib.hid hq12
      clear hp13 hq12
      go_wp2_with fail
      refine (next_q wr lx hx gx _ (kp, Nx, sx) HC.out.x rfl).mono ?_
      rintro e w5 ⟨rfl, hb⟩
      have C5 := Lib.hid (HC.out.below hb)
      clear hb
      go_wp2_with fail
      refine (next_q w5 lx hx gx _ (kp, Nx, sx) C5.out.x rfl).mono ?_
      rintro e w7 ⟨rfl, hb⟩
      have C7 := Lib.hid (C5.out.below hb)
      clear hb
      go_wp2_with fail
      refine (next_q w7 ly hy gy _ (kq, Ny, sy) C7.out.y rfl).mono ?_
      rintro e w8 ⟨rfl, hb⟩
      have C8 := Lib.hid (C7.out.below hb)
      have C9 := Lib.hid ((C8.out.below (box_below w8 (kp, Nx, sx))).below (box_below _ (kq, Ny, sy)))
      clear hb
      have Z1 := fun wz => size_ex wz (kp, Nx, sx) N HP.out hp1'.out hp2'.out HN.out.symm
      have Z2 := fun wz => size_ex wz (kq, Ny, sy) M HQ.out hq1'.out hq2'.out HM.out.symm
      simp only at Z1 Z2
      replace Z1 := Lib.hid Z1
      replace Z2 := Lib.hid Z2
      have HI0 := Lib.hid (boxes_init w8 (kp, Nx, sx) (kq, Ny, sy))
      go_upto_region 15 with fail
      go_cut [18] (fun s18 wx => s18 = .int .i64 n ∧ Hid (Boxes w8.heap.size (kp, Nx, sx) (kq, Ny, sy) wx) ∧ Hid (CM w.heap.size lx hx gx ly hy gy w3.heap.size w3.heap.size w wx ((kp, Nx, sx) :: rx') ((kq, Ny, sy) :: ry') F (stU us) v))
      case first =>
        go_region_with (first | (go_at_call 37; refine (Z1.out _).mono ?_; rintro e w9 ⟨rfl, rfl⟩) | (go_at_call 37; refine (Z2.out _).mono ?_; rintro e w9 ⟨rfl, rfl⟩))
        all_goals
          go_wp2_with fail
          go_meet
          refine ⟨by rw [HNM.out]; congr 1; omega, ?_, ?_⟩
          · exact ((HI0.out.chg (S := fun _ => False) (Chg.of_below (box_below _ (kp, Nx, sx))) (fun f => f) (fun f => f)).chg (S := fun _ => False) (Chg.of_below (box_below _ (kq, Ny, sy))) (fun f => f) (fun f => f)).chg (S := fun _ => False) (Chg.of_below (Gx.drewN_below _ 1 _)) (fun f => f) (fun f => f)
          · exact ((C9.out.below (box_below _ (kp, Nx, sx))).below (box_below _ (kq, Ny, sy))).below (Gx.drewN_below _ 1 _)
      case rest =>
        obtain ⟨rfl, HB0, HC0⟩ := hcut
        have TX := fun wz hz => take_any wz lx hx gx (kp, Nx, sx) rx' n hz HP.out hp1'.out hp2'.out HN1.out
        have TY := fun wz hz => take_any wz ly hy gy (kq, Ny, sy) ry' n hz HQ.out hq1'.out hq2'.out HN2.out
        rw [← HPT.out] at TX
        rw [← HQT.out] at TY
        replace TX := Lib.hid TX
        replace TY := Lib.hid TY
        have hl1 := C8.out.base_le
        have hl2 := C8.out.l2
        have hl3 := C8.out.l1
        have hl4 := C8.out.y.lg
        have hl5 := C8.out.x.lg
        have HX1 : Hid (¬ (lx ≤ w8.heap.size ∧ w8.heap.size < hx)) := fun h => by omega
        have HX2 : Hid (¬ (lx ≤ w8.heap.size + 1 ∧ w8.heap.size + 1 < hx)) := fun h => by omega
        have HY1 : Hid (¬ (ly ≤ w8.heap.size ∧ w8.heap.size < hy)) := fun h => by omega
        have HY2 : Hid (¬ (ly ≤ w8.heap.size + 1 ∧ w8.heap.size + 1 < hy)) := fun h => by omega
        clear hl1 hl2 hl3 hl4 hl5 C5 C7 C9 HI0 Z1 Z2
        go_wp2_with fail
        refine (TX.out _ HC0.out.x).mono ?_
        rintro e w10 ⟨rfl, hf, hch⟩
        have HB1 := Lib.hid (HB0.out.chg hch HX1.out HX2.out)
        have HC1 := Lib.hid (HC0.out.tookX hf hch)
        clear hf hch HB0 HC0
        go_wp2_with fail
        refine (TY.out _ HC1.out.y).mono ?_
        rintro e w11 ⟨rfl, hf, hch⟩
        have HB2 := Lib.hid (HB1.out.chg hch HY1.out HY2.out)
        have HC2 := Lib.hid (HC1.out.tookY hf hch)
        clear hf hch HB1 HC1 TX TY
        have c0 := HB2.out.c0
        have c1 := HB2.out.c1
        have c2 := HB2.out.c2
        have d0 := HB2.out.d0
        have d1 := HB2.out.d1
        have d2 := HB2.out.d2
        have f0 := HB2.out.f0
        have f1 := HB2.out.f1
        have lt := HB2.out.lt
        simp only at c0 c1 c2 d0 d1 d2
        have hput := boxes_put HB2.out (kp, Np, sp) (kq, Nq, sq)
        simp only at hput
        have HPUT := Lib.hid hput
        have hl1 := C8.out.base_le
        have hl2 := C8.out.l2
        have hl3 := C8.out.l1
        have hl4 := C8.out.bel.size
        have hl5 := C8.out.l3
        have HC3 := Lib.hid (HC2.out.boxed hput.2 (fun k hk => ⟨by omega, fun hf => by have := (C8.out.bd.low k hf).2; omega, by omega⟩))
        clear hput hl1 hl2 hl3 hl4 hl5
        go_upto_region 17 with fail
        obtain ⟨wz, hwz⟩ : ∃ wz, wz = ((((((w11.setCell ⟨w8.heap.size, 0, none⟩ (.int .i64 kp)).setCell ⟨w8.heap.size, 1, none⟩ (.int .i64 Np)).setCell ⟨w8.heap.size, 2, none⟩ (.string (bs sp))).setCell ⟨w8.heap.size + 1, 0, none⟩ (.int .i64 kq)).setCell ⟨w8.heap.size + 1, 1, none⟩ (.int .i64 Nq)).setCell ⟨w8.heap.size + 1, 2, none⟩ (.string (bs sq))) := ⟨_, rfl⟩
        rw [← hwz] at HPUT HC3 ⊢
        have HB4 := Lib.hid HPUT.out.1
        clear HPUT hwz c0 c1 c2 d0 d1 d2 f0 f1 lt HB2 HC2
        have c0 := HB4.out.c0
        have c1 := HB4.out.c1
        have c2 := HB4.out.c2
        have d0 := HB4.out.d0
        have d1 := HB4.out.d1
        have d2 := HB4.out.d2
        simp only at c0 c1 c2 d0 d1 d2
        rcases kz kp 1 with ⟨hk1, hx13, hx14, hx15⟩ | ⟨hk1, hx13, hx14, hx15⟩
        · have HT3 : Hid (CompSt A B (us ++ ex1 (kq, Nq, sq)) (leftP (kp, Nx, sx) n ++ rx') (leftP (kq, Ny, sy) n ++ ry')) := by
            have h := HT2.out
            rw [if_pos hk1] at h
            exact h
          clear HT2 hk1
          go_wp2_with fail
          refine (add_any _ _ F _ _ v (kq, Nq, sq) HC3.out.bd HC3.out.base_le HQO.out hsq.out).mono ?_
          rintro e w13 ⟨rfl, F2, v2, hb2, hF2, hc2⟩
          rw [hstq.out] at hb2
          have C12 := Lib.hid (HC3.out.added hb2 hc2)
          clear hb2 hF2 hc2 HC3 HB4 c0 c1 c2 d0 d1 d2
          go_wp2
          go_roundw
          case rel => first | exact ⟨_, _, _, F2, v2, C12, HT3⟩ | ((repeat apply Exists.intro); exact ⟨⟨_, _, _, F2, v2, C12, HT3⟩, rfl⟩)
          case measure => rw [C12.out.x.len, C12.out.y.len, hmeas.out]; exact HLEN.out
        · rcases kz kq 1 with ⟨hq1, hy13, hy14, hy15⟩ | ⟨hq1, hy13, hy14, hy15⟩
          · have HT3 : Hid (CompSt A B (us ++ ex1 (kp, Np, sp)) (leftP (kp, Nx, sx) n ++ rx') (leftP (kq, Ny, sy) n ++ ry')) := by
              have h := HT2.out
              rw [if_neg hk1, if_pos hq1] at h
              exact h
            clear HT2 hk1 hq1
            go_wp2_with fail
            refine (add_any _ _ F _ _ v (kp, Np, sp) HC3.out.bd HC3.out.base_le HPO.out hsp.out).mono ?_
            rintro e w13 ⟨rfl, F2, v2, hb2, hF2, hc2⟩
            rw [hstp.out] at hb2
            have C12 := Lib.hid (HC3.out.added hb2 hc2)
            clear hb2 hF2 hc2 HC3 HB4 c0 c1 c2 d0 d1 d2
            go_wp2
            go_roundw
            case rel => first | exact ⟨_, _, _, F2, v2, C12, HT3⟩ | ((repeat apply Exists.intro); exact ⟨⟨_, _, _, F2, v2, C12, HT3⟩, rfl⟩)
            case measure => rw [C12.out.x.len, C12.out.y.len, hmeas.out]; exact HLEN.out
          · have HT3 : Hid (CompSt A B us (leftP (kp, Nx, sx) n ++ rx') (leftP (kq, Ny, sy) n ++ ry')) := by
              have h := HT2.out
              rw [if_neg hk1, if_neg hq1, List.append_nil] at h
              exact h
            clear HT2 hk1 hq1
            go_wp2
            go_roundw
            case rel => first | exact ⟨_, _, _, F, v, HC3, HT3⟩ | ((repeat apply Exists.intro); exact ⟨⟨_, _, _, F, v, HC3, HT3⟩, rfl⟩)
            case measure => rw [HC3.out.x.len, HC3.out.y.len, hmeas.out]; exact HLEN.out
end Go.Proofs.Ytaibpnblnigkgaa
