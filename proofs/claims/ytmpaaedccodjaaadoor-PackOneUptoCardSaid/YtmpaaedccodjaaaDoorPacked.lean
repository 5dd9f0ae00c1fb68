/-
  The contract of packed. Conditions: the value is good.
-/
import Derived.Test.YtmpaaedccodjaaaDoorPackLaw
import Derived.Test.YtmpaaedccodjaaaDoorPartsIt
import Derived.Test.YtmpaaedccodjaaaDoorXor
namespace Go.Proofs.YtmpaaedccodjaaaDoor
open Go.RowKit Gx
set_option maxRecDepth 100000

/-- how far packed has come: u holds ys; what it began with is orig -/
structure PkS (w1 : World) (base : Nat) (orig u : Value) (ys : List Int) (W : World) : Prop where
  o : Out W base u ys
  g : w1.grownBy W orig.ownBlock
  m : Moved orig u w1.heap.size
theorem PkS.step {w1 : World} {base : Nat} {orig u u' : Value} {ys ys' : List Int} {W W' : World} (h : PkS w1 base orig u ys W) (ho : Out W' base u' ys') (hg : W.grownBy W' u.ownBlock) (hm : Moved u u' W.heap.size) : PkS w1 base orig u' ys' W' :=
  ⟨ho, grown_moved h.g hg h.m, moved_trans h.m hm h.g.size⟩
theorem PkS.quiet {w1 : World} {base : Nat} {orig u : Value} {ys : List Int} {W W' : World} (h : PkS w1 base orig u ys W) (hb : Below W.heap.size W W') : PkS w1 base orig u ys W' :=
  ⟨h.o.keep hb, ⟨hb.os.trans h.g.os, hb.tape.trans h.g.tape, hb.output.trans h.g.output, Nat.le_trans h.g.size hb.size, fun k hk hne => (hb.block k (Nat.lt_of_lt_of_le hk h.g.size)).trans (h.g.block k hk hne)⟩, h.m⟩
theorem PkS.box {w1 : World} {base B : Nat} {orig u : Value} {ys : List Int} {W : World} {q : Loc} (h : PkS w1 base orig u ys W) (hc : CellsAt w1 B 0 q) (hB : B < w1.heap.size) (hne : orig.ownBlock ≠ some B) : CellsAt W B 0 q :=
  hc.through (h.g.block B hB (fun e => hne e.symm))
/-- what lies below base -/
theorem PkS.old {w1 : World} {base : Nat} {orig u : Value} {ys : List Int} {W : World} {q : Loc} (h : PkS w1 base orig u ys W) (hv : VAt w1 (· < base) q) (hob : ∀ k, orig.ownBlock = some k → base ≤ k) : VAt W (· < base) q :=
  hv.grow h.g (fun b e hb => by have := hob b e; omega)
theorem PkS.fin {w w1 : World} {base : Nat} {orig : Value} {xs more : List Int} {ao : Option Addr} {c : Nat} {W : World} (h : PkS w1 base orig (.slice ao (xs.length + more.length) c) (xs ++ more) W) (hg : w.grownBy w1 none) :
    OutPost base orig xs more w (.returned (.slice ao (xs.length + more.length) c)) W :=
  ⟨ao, c, rfl, h.o, ⟨h.g.os.trans hg.os, h.g.tape.trans hg.tape, h.g.output.trans hg.output, Nat.le_trans hg.size h.g.size, fun i hi hne => (h.g.block i (Nat.lt_of_lt_of_le hi hg.size) hne).trans (hg.block i hi (by simp))⟩,
    by rcases h.m with h | ⟨g, h, h'⟩; exact .inl h; exact .inr ⟨g, h, Nat.le_trans hg.size h'⟩⟩
theorem PkS.fin' {w w1 : World} {base : Nat} {orig : Value} {xs more ys : List Int} {ao : Option Addr} {c m : Nat} {W : World} (h : PkS w1 base orig (.slice ao m c) ys W) (hg : w.grownBy w1 none) (hy : ys = xs ++ more) (hm : m = xs.length + more.length) :
    OutPost base orig xs more w (.returned (.slice ao m c)) W := by
  subst hy; subst hm; exact h.fin hg

theorem PkS.start {W : World} {base : Nat} {u : Value} {ys : List Int} (h : Out W base u ys) : PkS W base u u ys W := ⟨h, World.grownBy.refl _ _, .inl rfl⟩
/-- the six cells, told one by one -/
def Six (w : World) (b : Nat) (p : Loc) : Prop := w.cell? ⟨b, 0, none⟩ = some (.int .i64 p.v.k) ∧ w.cell? ⟨b, 1, none⟩ = some (.int .i64 p.v.n) ∧ w.cell? ⟨b, 2, none⟩ = some (.int .u64 p.v.f) ∧ w.cell? ⟨b, 3, none⟩ = some (.string p.v.s) ∧ w.cell? ⟨b, 4, none⟩ = some (.slice p.ad p.v.l.length p.cap) ∧ w.cell? ⟨b, 5, none⟩ = some (.slice p.bd p.v.e.length p.dap)
theorem CellsAt.six {w : World} {b : Nat} {p : Loc} (h : CellsAt w b 0 p) : Six w b p := ⟨h.c0, h.c1, h.c2, h.c3, h.c4, h.c5⟩
/-- what a round's call of packed hands back -/
def PkR (W6 : World) (base : Nat) (u0 : Value) (m4 : Nat) (zs : List Int) (B o : Nat) (q : Loc) (e : Ending) (w' : World) : Prop :=
  ∃ ao4 c4, e = .returned (.slice ao4 m4 c4) ∧ PkS W6 base u0 (.slice ao4 m4 c4) zs w' ∧ CellsAt w' B o q
theorem CellsAt.pk {w1 : World} {base B o : Nat} {orig u : Value} {ys : List Int} {W : World} {q : Loc} (h : PkS w1 base orig u ys W) (hc : CellsAt w1 B o q) (hB : B < w1.heap.size) (hne : orig.ownBlock ≠ some B) : CellsAt W B o q :=
  hc.through (h.g.block B hB (fun e => hne e.symm))
theorem pack_round {base : Nat} {u0 : Value} {W6 : World} {q : Loc} {B o : Nat} {ys : List Int} {m3 m4 : Nat}
    (ih : ∀ (ao : Option Addr) (c : Nat) (xs : List Int) (w : World), Out w base (.slice ao xs.length c) xs → base ≤ w.heap.size → VAt w (· < base) q → xs.length + q.v.pk.length ≤ 100000000 →
      Calls Tryd.prog 16 #[.slice ao xs.length c, q.val] w (OutPost base (.slice ao xs.length c) xs q.v.pk w))
    (hv : VAt W6 (· < base) q) (hob : ∀ k, u0.ownBlock = some k → base ≤ k) (hc : CellsAt W6 B o q) (hB : B < W6.heap.size) (hne : u0.ownBlock ≠ some B) (hb : base ≤ W6.heap.size) (hm : ys.length = m3) (hm4 : m3 + q.v.pk.length = m4) (hl : m4 ≤ 100000000)
    (ao3 : Option Addr) (c3 : Nat) (W7 : World) (h : PkS W6 base u0 (.slice ao3 m3 c3) ys W7) : Calls Tryd.prog 16 #[.slice ao3 m3 c3, q.val] W7 (PkR W6 base u0 m4 (ys ++ q.v.pk) B o q) := by
  subst hm; subst hm4
  refine (ih ao3 c3 ys W7 h.o (Nat.le_trans hb h.g.size) (h.old hv hob) hl).mono ?_
  rintro e w' ⟨ao4, c4, rfl, ho, hg, hm⟩
  have h2 := h.step ho hg hm
  exact ⟨ao4, c4, rfl, h2, CellsAt.pk h2 hc hB hne⟩
theorem pkL_take {l : List V} {i : Nat} {x : V} (h : l[i]? = some x) : pkL (l.take (i + 1)) = pkL (l.take i) ++ (1 :: x.pk) := by rw [take_succ' h, pkL_snoc]
theorem pkL_le {l : List V} {i : Nat} {x : V} (h : l[i]? = some x) : (pkL (l.take i)).length + 1 + x.pk.length ≤ (pkL l).length := by
  have h1 := pkL_take h
  have h2 : pkL l = pkL (l.take (i + 1)) ++ pkL (l.drop (i + 1)) := by unfold pkL; rw [← List.flatMap_append, List.take_append_drop]
  rw [h2, h1]; simp only [List.length_append, List.length_cons]; omega
theorem pkE_take {l : List (ByteArray × V)} {i : Nat} {x : ByteArray × V} (h : l[i]? = some x) : pkE (l.take (i + 1)) = pkE (l.take i) ++ (1 :: (chainB x.1.data.toList ++ x.2.pk)) := by rw [take_succ' h, pkE_snoc]
theorem pkE_le {l : List (ByteArray × V)} {i : Nat} {x : ByteArray × V} (h : l[i]? = some x) : (pkE (l.take i)).length + 1 + (chainB x.1.data.toList).length + x.2.pk.length ≤ (pkE l).length := by
  have h1 := pkE_take h
  have h2 : pkE l = pkE (l.take (i + 1)) ++ pkE (l.drop (i + 1)) := by unfold pkE; rw [← List.flatMap_append, List.take_append_drop]
  rw [h2, h1]; simp only [List.length_append, List.length_cons]; omega
theorem u64wrap (n : Int) : IntKind.u64.wrap n = n % 18446744073709551616 := by simp [IntKind.wrap, IntKind.bits, IntKind.signed]

def Seven (w : World) (b : Nat) (key : ByteArray) (p : Loc) : Prop := w.cell? ⟨b, 0, none⟩ = some (.string key) ∧ w.cell? ⟨b, 1, none⟩ = some (.int .i64 p.v.k) ∧ w.cell? ⟨b, 2, none⟩ = some (.int .i64 p.v.n) ∧ w.cell? ⟨b, 3, none⟩ = some (.int .u64 p.v.f) ∧ w.cell? ⟨b, 4, none⟩ = some (.string p.v.s) ∧ w.cell? ⟨b, 5, none⟩ = some (.slice p.ad p.v.l.length p.cap) ∧ w.cell? ⟨b, 6, none⟩ = some (.slice p.bd p.v.e.length p.dap)
def ChR (W6 : World) (base : Nat) (u0 : Value) (m3 : Nat) (zs : List Int) (e : Ending) (w' : World) : Prop :=
  ∃ ao4 c4, e = .returned (.slice ao4 m3 c4) ∧ PkS W6 base u0 (.slice ao4 m3 c4) zs w'
theorem chain_round {base : Nat} {u0 : Value} {W6 : World} {ys ck : List Int} {s : ByteArray} {m m3 : Nat} (hb : base ≤ W6.heap.size) (hm : ys.length = m) (hm3 : m + ck.length = m3) (hl : m ≤ 100000000) (hs : s.size ≤ 100) (hck : chainB s.data.toList = ck)
    (ao3 : Option Addr) (c3 : Nat) (W7 : World) (h : PkS W6 base u0 (.slice ao3 m c3) ys W7) : Calls Tryd.prog 30 #[.slice ao3 m c3, .string s] W7 (ChR W6 base u0 m3 (ys ++ ck)) := by
  subst hm; subst hm3; subst hck
  refine (chain_any base ao3 c3 ys s W7 h.o (Nat.le_trans hb h.g.size) (by omega) (by omega)).mono ?_
  rintro e w' ⟨ao4, c4, rfl, ho, hg, hm⟩
  exact ⟨ao4, c4, rfl, h.step ho hg hm⟩

set_option maxHeartbeats 8000000 in
theorem packed_step (base : Nat) (ao : Option Addr) (c : Nat) (xs : List Int) (k n f : Int) (s : ByteArray) (l : List V) (e : List (ByteArray × V)) (ad bd : Option Addr) (cap dap : Nat) (w : World) (h : Out w base (.slice ao xs.length c) xs) (hb : base ≤ w.heap.size) (hv : VAt w (· < base) ⟨.mk k n f s l e, ad, cap, bd, dap⟩) (hgd : Good (.mk k n f s l e)) (hx : xs.length + (V.mk k n f s l e).pk.length ≤ 100000000)
    (ih : ∀ (ao : Option Addr) (c : Nat) (xs : List Int) (q : Loc) (w : World), SizeOf.sizeOf q.v < SizeOf.sizeOf (V.mk k n f s l e) → Out w base (.slice ao xs.length c) xs → base ≤ w.heap.size → VAt w (· < base) q → Good q.v → xs.length + q.v.pk.length ≤ 100000000 →
      Calls Tryd.prog 16 #[.slice ao xs.length c, q.val] w (OutPost base (.slice ao xs.length c) xs q.v.pk w)) :
    Calls Tryd.prog 16 #[.slice ao xs.length c, .agg #[.int .i64 k, .int .i64 n, .int .u64 f, .string s, .slice ad l.length cap, .slice bd e.length dap]] w (OutPost base (.slice ao xs.length c) xs (V.mk k n f s l e).pk w) := by
  have hok := hgd.ok
  have hpk := pk_eq (V.mk k n f s l e)
  obtain ⟨pp, hpp⟩ : ∃ pp, (V.mk k n f s l e).pk = pp := ⟨_, rfl⟩
  rw [hpp] at hpk hx ⊢
  simp only [V.k, V.n, V.f, V.s, V.l, V.e] at hpk
  have hsz : s.size ≤ 4000 := (ownV_zero hgd.own).2.1
  have hll : l.length ≤ 200 := (ownV_zero hgd.own).2.2.1
  have hel : e.length ≤ 200 := (ownV_zero hgd.own).2.2.2.1
  have hE : CellsAt (w.alloc (.cells #[.int .i64 k, .int .i64 n, .int .u64 f, .string s, .slice ad l.length cap, .slice bd e.length dap] 26)) w.heap.size 0 ⟨.mk k n f s l e, ad, cap, bd, dap⟩ := CellsAt.box (heap_alloc_new w _)
  have hS : PkS (w.alloc (.cells #[.int .i64 k, .int .i64 n, .int .u64 f, .string s, .slice ad l.length cap, .slice bd e.length dap] 26)) base (.slice ao xs.length c) (.slice ao xs.length c) xs (w.alloc (.cells #[.int .i64 k, .int .i64 n, .int .u64 f, .string s, .slice ad l.length cap, .slice bd e.length dap] 26)) :=
    ⟨h.keep ((Below.refl _ w).alloc (Nat.le_refl _) _), World.grownBy.refl _ _, .inl rfl⟩
  have hv1 : VAt (w.alloc (.cells #[.int .i64 k, .int .i64 n, .int .u64 f, .string s, .slice ad l.length cap, .slice bd e.length dap] 26)) (· < base) ⟨.mk k n f s l e, ad, cap, bd, dap⟩ := hv.keep ((Below.refl _ w).alloc (Nat.le_refl _) _)
  have hgr0 : w.grownBy (w.alloc (.cells #[.int .i64 k, .int .i64 n, .int .u64 f, .string s, .slice ad l.length cap, .slice bd e.length dap] 26)) none := World.grownBy_alloc w _ none
  have hs1 : w.heap.size < (w.alloc (.cells #[.int .i64 k, .int .i64 n, .int .u64 f, .string s, .slice ad l.length cap, .slice bd e.length dap] 26)).heap.size := by simp
  have HOB := Lib.hid (fun (k : Nat) (e : (Value.slice ao xs.length c).ownBlock = some k) => (h.base k e).1)
  have HNB : Hid ((Value.slice ao xs.length c).ownBlock ≠ some w.heap.size) := Lib.hid (fun e => by have := (h.base _ e).2; omega)
  have HWF := Lib.hid hv.wf
  have HG := Lib.hid hgd
  have HOK := Lib.hid hok
  have IH := Lib.hid ih
  have k0 : 0 ≤ k := hok.k0
  have k6 : k ≤ 6 := hok.k6
  clear hok hv hgd ih h
  have hxl : xs.length ≤ 100000000 := by omega
  have HPK := Lib.hid hpk
  have HPP := Lib.hid hpp
  have HX := Lib.hid hx
  clear hpk hpp hx
  go_enter Tryd.func16, Tryd.ntmps16
  go_upto_region 1 with fail
  generalize hw1 : World.alloc w _ = w1 at hE hS hv1 hgr0 hs1 ⊢
  clear hw1
  have hb1 : base ≤ w1.heap.size := by omega
  obtain ⟨a0, a1, a2, a3, a4, a5⟩ := hE
  have HE : Hid (CellsAt w1 w.heap.size 0 ⟨.mk k n f s l e, ad, cap, bd, dap⟩) := Lib.hid ⟨a0, a1, a2, a3, a4, a5⟩
  simp only [V.k, V.n, V.f, V.s, V.l, V.e] at a0 a1 a2 a3 a4 a5
  have HS := Lib.hid hS
  have HGR := Lib.hid hgr0
  have HV1 := Lib.hid hv1
  clear hS hgr0 hv1
  go_upto_region 2 with (at_builtin; refine wpList_pushB w1 rfl (.tmp 9) (.tmp 14) rfl base (.slice ao xs.length c) xs (k + 1) _ rfl rfl HS.out.o rfl xs.length rfl (by omega) hb1 ?_; intro ao2 c2 w2 ho2 hg2 hm2)
  have hS2 := HS.out.step ho2 hg2 hm2
  have hb2 : base ≤ w2.heap.size := Nat.le_trans hb1 hg2.size
  have HS2 := Lib.hid hS2
  have HB2 : Hid (CellsAt w2 w.heap.size 0 ⟨.mk k n f s l e, ad, cap, bd, dap⟩) := Lib.hid (hS2.box HE.out hs1 HNB.out)
  have hc2 := HB2.out
  obtain ⟨b0, b1, b2, b3, b4, b5⟩ := hc2
  simp only [V.k, V.n, V.f, V.s, V.l, V.e] at b0 b1 b2 b3 b4 b5
  have hyl : (xs ++ [k + 1]).length = xs.length + 1 := by simp
  have HYL := Lib.hid hyl
  clear a0 a1 a2 a3 a4 a5 ho2 hg2 hm2 hS2 hyl HS
  have hkk : k = 0 ∨ k = 1 ∨ k = 2 ∨ k = 3 ∨ k = 4 ∨ k = 5 ∨ k = 6 := by omega
  clear k0 k6
  rcases hkk with rfl | rfl | rfl | rfl | rfl | rfl | rfl
  · have HPQ : Hid (pp = [0 + 1]) := Lib.hid HPK.out
    clear b1 b2 b3 b4 b5
    go_wp2_with fail
    try go_ret
    exact HS2.out.fin' HGR.out (by rw [HPQ.out]) (by rw [HPQ.out]; rfl)
  · have HPQ : Hid (pp = [1 + 1, n]) := Lib.hid HPK.out
    have hn : n = 0 ∨ n = 1 := HOK.out.n1 rfl
    have hn0 : 0 ≤ n := by omega
    have hn1 : n ≤ 1 := by omega
    clear b2 b3 b4 b5 hn
    go_wp2_with (at_builtin; refine wpList_pushB w2 rfl (.tmp 20) (.tmp 24) rfl base (.slice ao2 (xs.length + 1) c2) (xs ++ [1 + 1]) n _ rfl rfl HS2.out.o rfl (xs.length + 1) HYL.out (by omega) hb2 ?_; intro ao3 c3 w3 ho3 hg3 hm3)
    try go_ret
    exact (HS2.out.step ho3 hg3 hm3).fin' HGR.out (by rw [HPQ.out]; simp) (by rw [HPQ.out]; rfl)
  · have HPQ : Hid (pp = (2 + 1) :: wordB (n + 9223372036854775808)) := Lib.hid HPK.out
    clear b2 b3 b4 b5
    obtain ⟨N, hN⟩ : ∃ N, n + 9223372036854775808 = N := ⟨_, rfl⟩
    have hw0 : -9223372036854775808 ≤ n := HWF.out.n0
    have hw1 : n ≤ 9223372036854775807 := HWF.out.n1
    have hbits : bits .xor .u64 (IntKind.u64.wrap n) 9223372036854775808 = N := by
      rw [u64wrap, ixor_top _ (by omega) (by omega)]
      by_cases h : 0 ≤ n
      · rw [if_pos (by omega)]; omega
      · rw [if_neg (by omega)]; omega
    rw [hN] at HPQ
    have hN0 : 0 ≤ N := by omega
    have hN1 : N ≤ 18446744073709551615 := by omega
    have hwd := word_any base ao2 c2 (xs ++ [2 + 1]) N w2 (by rw [HYL.out]; exact HS2.out.o) hb2 (by rw [HYL.out]; omega) hN0 hN1
    rw [HYL.out] at hwd
    have HWD := Lib.hid hwd
    clear hwd hw0 hw1 hN hN0 hN1
    go_wp2_with fail
    (with_reducible refine HWD.out.mono ?_)
    rintro e w3 ⟨ao3, c3, rfl, ho3, hg3, hm3⟩
    rw [HYL.out] at ho3 hm3 ⊢
    go_wp2_with fail
    try go_ret
    exact (HS2.out.step ho3 hg3 hm3).fin' HGR.out (by rw [HPQ.out]; simp) (by rw [HPQ.out]; simp; omega)
  · have HPQ : Hid (pp = (3 + 1) :: wordB (fbits f)) := Lib.hid HPK.out
    clear b1 b3 b4 b5
    obtain ⟨N, hN⟩ : ∃ N, fbits f = N := ⟨_, rfl⟩
    have hw0 : 0 ≤ f := HWF.out.f0
    have hw1 : f ≤ 18446744073709551615 := HWF.out.f1
    rw [hN] at HPQ
    by_cases hf : f < 9223372036854775808
    all_goals
      first
        | (have hbits : bits .xor .u64 f 9223372036854775808 = N := by rw [ixor_top _ hw0 hw1, if_pos hf, ← hN]; unfold fbits; rw [if_pos hf])
        | (have hbits : bits .xor .u64 IntKind.u64.max f = N := by rw [ixor_all _ hw0 hw1, ← hN]; unfold fbits; rw [if_neg hf])
      have hN0 : 0 ≤ N := by rw [← hN]; unfold fbits; split <;> omega
      have hN1 : N ≤ 18446744073709551615 := by rw [← hN]; unfold fbits; split <;> omega
      first
        | (have t1 : (f / 9223372036854775808 == 0) = true := by simp; omega)
        | (have t1 : (f / 9223372036854775808 == 0) = false := by simp; omega)
      have hwd := word_any base ao2 c2 (xs ++ [3 + 1]) N w2 (by rw [HYL.out]; exact HS2.out.o) hb2 (by rw [HYL.out]; omega) hN0 hN1
      rw [HYL.out] at hwd
      have HWD := Lib.hid hwd
      clear hwd hN hN0 hN1
      go_wp2_with fail
      (with_reducible refine HWD.out.mono ?_)
      rintro e w3 ⟨ao3, c3, rfl, ho3, hg3, hm3⟩
      rw [HYL.out] at ho3 hm3 ⊢
      go_wp2_with fail
      try go_ret
      exact (HS2.out.step ho3 hg3 hm3).fin' HGR.out (by rw [HPQ.out]; simp) (by rw [HPQ.out]; simp; omega)
  · have HPQ : Hid (pp = (4 + 1) :: chainB s.data.toList) := Lib.hid HPK.out
    clear b1 b2 b4 b5
    have hch := chain_any base ao2 c2 (xs ++ [4 + 1]) s w2 (by rw [HYL.out]; exact HS2.out.o) hb2 (by rw [HYL.out]; omega) (by omega)
    rw [HYL.out] at hch
    have HCH := Lib.hid hch
    clear hch
    go_wp2_with fail
    (with_reducible refine HCH.out.mono ?_)
    rintro e w3 ⟨ao3, c3, rfl, ho3, hg3, hm3⟩
    rw [HYL.out] at ho3 hm3 ⊢
    go_wp2_with fail
    try go_ret
    exact (HS2.out.step ho3 hg3 hm3).fin' HGR.out (by rw [HPQ.out]; simp) (by rw [HPQ.out]; simp; omega)
  · have HPQ : Hid (pp = (5 + 1) :: (pkL l ++ [0])) := Lib.hid HPK.out
    clear b1 b2 b3 b5
    obtain ⟨nl, hnl⟩ : ∃ nl, l.length = nl := ⟨_, rfl⟩
    rw [hnl] at b4 hll
    have HNL := Lib.hid hnl
    clear hnl
    have hppl : xs.length + 1 + (pkL l).length + 1 ≤ 100000000 := by have := HX.out; rw [HPQ.out] at this; simp at this; omega
    go_wp2_with fail
    go_loopw [0, 61] (fun v0 v61 wr => ∃ i : Nat, i ≤ nl ∧ v61 = .int .i64 i ∧ ∃ ao' m c', v0 = .slice ao' m c' ∧ Hid (PkS w1 base (.slice ao xs.length c) v0 (xs ++ [5 + 1] ++ pkL (l.take i)) wr) ∧ Hid ((xs ++ [5 + 1] ++ pkL (l.take i)).length = m)) (fun _ v61 _ => nl - (intOf v61).toNat)
    case atStart => exact ⟨0, Nat.zero_le _, rfl, ao2, xs.length + 1, c2, rfl, Lib.hid (by rw [List.take_zero, show pkL [] = [] from rfl, List.append_nil]; exact HS2.out), Lib.hid (by rw [List.take_zero, show pkL [] = [] from rfl, List.append_nil]; exact HYL.out)⟩
    case round =>
      obtain ⟨i, hi, rfl, ao', m, c', rfl, hsr, HM⟩ := hrel
      have hwb : base ≤ wr.heap.size := Nat.le_trans hb1 hsr.out.g.size
      by_cases hlt : i < nl
      · obtain ⟨x, hx⟩ : ∃ x, l[i]? = some x := ⟨_, List.getElem?_eq_getElem (by rw [HNL.out]; exact hlt)⟩
        have hvr := hsr.out.old HV1.out HOB.out
        obtain ⟨b, off, hbd, hBb, hbl, hcs⟩ := hvr.l.elem (by show 0 < l.length; rw [HNL.out]; omega)
        simp only at hbd
        subst hbd
        obtain ⟨p, hp, hvp, gs⟩ := hcs i x hx
        subst hp
        obtain ⟨g0, g1, g2, g3, g4, g5⟩ := gs
        have hgx : Good p.v := HG.out.l p.v (List.mem_of_getElem? hx)
        have hle := pkL_le hx
        have htk := pkL_take hx
        have hml : m + 1 + p.v.pk.length ≤ 100000000 := by
          have := HM.out
          rw [List.length_append, List.length_append] at this
          simp at this; omega
        have hne6 : (Value.slice ao' m c').ownBlock ≠ some wr.heap.size := fun e => by have := (hsr.out.o.base _ e).2; omega
        have hob6 : ∀ k, (Value.slice ao' m c').ownBlock = some k → base ≤ k := fun k e => (hsr.out.o.base k e).1
        have hc6 : CellsAt (wr.alloc (.cells #[.int .i64 p.v.k, .int .i64 p.v.n, .int .u64 p.v.f, .string p.v.s, .slice p.ad p.v.l.length p.cap, .slice p.bd p.v.e.length p.dap] 26)) wr.heap.size 0 p := CellsAt.box (heap_alloc_new wr _)
        have hv6 : VAt (wr.alloc (.cells #[.int .i64 p.v.k, .int .i64 p.v.n, .int .u64 p.v.f, .string p.v.s, .slice p.ad p.v.l.length p.cap, .slice p.bd p.v.e.length p.dap] 26)) (· < base) p := hvp.keep ((Below.refl _ wr).alloc (Nat.le_refl _) _)
        have hs6 : PkS (wr.alloc (.cells #[.int .i64 p.v.k, .int .i64 p.v.n, .int .u64 p.v.f, .string p.v.s, .slice p.ad p.v.l.length p.cap, .slice p.bd p.v.e.length p.dap] 26)) base (.slice ao' m c') (.slice ao' m c') (xs ++ [5 + 1] ++ pkL (l.take i)) (wr.alloc (.cells #[.int .i64 p.v.k, .int .i64 p.v.n, .int .u64 p.v.f, .string p.v.s, .slice p.ad p.v.l.length p.cap, .slice p.bd p.v.e.length p.dap] 26)) := PkS.start (hsr.out.o.keep ((Below.refl _ wr).alloc (Nat.le_refl _) _))
        have hgr6 : wr.grownBy (wr.alloc (.cells #[.int .i64 p.v.k, .int .i64 p.v.n, .int .u64 p.v.f, .string p.v.s, .slice p.ad p.v.l.length p.cap, .slice p.bd p.v.e.length p.dap] 26)) none := World.grownBy_alloc wr _ none
        have hsz6 : wr.heap.size < (wr.alloc (.cells #[.int .i64 p.v.k, .int .i64 p.v.n, .int .u64 p.v.f, .string p.v.s, .slice p.ad p.v.l.length p.cap, .slice p.bd p.v.e.length p.dap] 26)).heap.size := by simp
        have HIX := Lib.hid (fun ao c xs w h1 h2 h3 h4 => IH.out ao c xs p w (V.lt_l (List.mem_of_getElem? hx)) h1 h2 h3 hgx h4)
        have HTK := Lib.hid htk
        clear hx hvr hcs hvp hle htk hgx
        go_upto_region 17 with fail
        generalize hw6 : World.alloc wr _ = w6 at hc6 hv6 hs6 hgr6 hsz6 ⊢
        clear hw6 g0 g1 g2 g3 g4 g5
        have hb6 : base ≤ w6.heap.size := by omega
        have hpr := pack_round HIX.out hv6 hob6 hc6 hsz6 hne6 hb6 (m3 := m + 1) (m4 := m + 1 + p.v.pk.length) (ys := xs ++ [5 + 1] ++ pkL (l.take i) ++ [1]) (by rw [List.length_append, HM.out]; rfl) rfl hml
        simp only [Loc.val] at hpr
        have hm8 : m + 1 ≤ 100000000 := by omega
        obtain ⟨m4, hm4⟩ : ∃ m4, m + 1 + p.v.pk.length = m4 := ⟨_, rfl⟩
        rw [hm4] at hpr hml
        have HPR := Lib.hid hpr
        have HM4 := Lib.hid hm4
        have HS6 := Lib.hid hs6
        have HC6 := Lib.hid hc6
        have HGR6 := Lib.hid hgr6
        have HNE6 := Lib.hid hne6
        clear hpr hm4 hs6 hgr6 hv6 hob6 hne6
        have hs6d : PkS w6 base (.slice ao' m c') (.slice ao' m c') (xs ++ [5 + 1] ++ pkL (l.take i)) w6.drew := HS6.out.quiet (Gx.drewN_below w6 1 _)
        have hb6d : base ≤ w6.drew.heap.size := hb6
        have hk6 : Six w6.drew wr.heap.size p := (show CellsAt w6.drew wr.heap.size 0 p from hc6.through rfl).six
        have hk6a : Six (w6.drew.alloc (.cells #[.int .u8 1] 5)) wr.heap.size p := (show CellsAt _ wr.heap.size 0 p from hc6.through (Below.heap_alloc w6.drew _ _ hsz6)).six
        have HS6d := Lib.hid hs6d
        clear hs6d hc6
        unfold Six at hk6 hk6a
        go_region_held3 (fun w' => w'.cell? ⟨wr.heap.size, 0, none⟩ = some (.int .i64 p.v.k) ∧ w'.cell? ⟨wr.heap.size, 1, none⟩ = some (.int .i64 p.v.n) ∧ w'.cell? ⟨wr.heap.size, 2, none⟩ = some (.int .u64 p.v.f) ∧ w'.cell? ⟨wr.heap.size, 3, none⟩ = some (.string p.v.s) ∧ w'.cell? ⟨wr.heap.size, 4, none⟩ = some (.slice p.ad p.v.l.length p.cap) ∧ w'.cell? ⟨wr.heap.size, 5, none⟩ = some (.slice p.bd p.v.e.length p.dap)) (first | exact hk6 | exact hk6a | exact hk7 | exact hk8 | go_keep)
          (first
            | (refine step_pushB w6.drew rfl (.tmp 65) (.tmp 66) rfl base (.slice ao' m c') (xs ++ [5 + 1] ++ pkL (l.take i)) 1 _ rfl rfl HS6d.out.o rfl m HM.out (by omega) hb6d ?_; intro ao7 c7 w7 ho7 hg7 hm7; have hs7 := HS6d.out.step ho7 hg7 hm7; have hk7 : Six w7 wr.heap.size p := (CellsAt.pk hs7 HC6.out hsz6 HNE6.out).six; unfold Six at hk7; have HS7 := Lib.hid hs7; clear ho7 hg7 hm7 hs7)
            | (go_simp; refine (HPR.out _ _ _ HS7.out).mono ?_; rintro e w8 ⟨ao8, c8, rfl, hs8, hc8⟩; have hk8 : Six w8 wr.heap.size p := hc8.six; unfold Six at hk8; have HS8 := Lib.hid hs8; clear hs8 hc8))
        have H1 : Hid ((xs ++ [5 + 1] ++ pkL (l.take (i + 1))).length = m4) := Lib.hid (by
          rw [HTK.out, ← List.append_assoc, List.length_append, HM.out, List.length_cons, ← HM4.out]; omega)
        have H2 : Hid (PkS w1 base (.slice ao xs.length c) (.slice ao8 m4 c8) (xs ++ [5 + 1] ++ pkL (l.take (i + 1))) w8) := Lib.hid (by
          have h1 := HS8.out
          rw [List.append_assoc] at h1
          have h2 : PkS wr base (.slice ao' m c') (.slice ao8 m4 c8) (xs ++ [5 + 1] ++ pkL (l.take i) ++ ([1] ++ p.v.pk)) w8 := ⟨h1.o, ⟨h1.g.os.trans HGR6.out.os, h1.g.tape.trans HGR6.out.tape, h1.g.output.trans HGR6.out.output, Nat.le_trans HGR6.out.size h1.g.size, fun k hk hne => (h1.g.block k (Nat.lt_of_lt_of_le hk HGR6.out.size) hne).trans (HGR6.out.block k hk (by simp))⟩,
            by rcases h1.m with h | ⟨g, h, h'⟩; exact .inl h; exact .inr ⟨g, h, Nat.le_trans HGR6.out.size h'⟩⟩
          rw [HTK.out, ← List.append_assoc]
          exact hsr.out.step h2.o h2.g h2.m)
        clear HS8 HS7 HS6d HS6 HPR hk6 hk6a hk7 hk8 hsr HM
        go_wp2_with fail
        go_roundw
        case rel => exact ⟨i + 1, by omega, by go_num, ao8, m4, c8, rfl, H2, H1⟩
        case measure => simp [intOf]; omega
      · obtain rfl : i = nl := by omega
        rw [List.take_of_length_le (Nat.le_of_eq HNL.out)] at hsr HM
        have hm9 : m + 1 ≤ 100000000 := by have := HM.out; rw [List.length_append, List.length_append] at this; simp at this; omega
        clear hlt hi
        go_wp2_with (at_builtin; refine wpList_pushB wr rfl (.tmp 71) (.tmp 72) rfl base (.slice ao' m c') (xs ++ [5 + 1] ++ pkL l) 0 _ rfl rfl hsr.out.o rfl m HM.out (by omega) hwb ?_; intro ao3 c3 w3 ho3 hg3 hm3)
        try go_ret
        exact (hsr.out.step ho3 hg3 hm3).fin' HGR.out (by rw [HPQ.out]; simp) (by rw [HPQ.out, ← HM.out]; simp; omega)
  · have HPQ : Hid (pp = (6 + 1) :: (pkE e ++ [0])) := Lib.hid HPK.out
    clear b1 b2 b3 b4
    obtain ⟨ne, hne⟩ : ∃ ne, e.length = ne := ⟨_, rfl⟩
    rw [hne] at b5 hel
    have HNE := Lib.hid hne
    clear hne
    have hppl : xs.length + 1 + (pkE e).length + 1 ≤ 100000000 := by have := HX.out; rw [HPQ.out] at this; simp at this; omega
    go_wp2_with fail
    go_loopw [0, 79] (fun v0 v79 wr => ∃ i : Nat, i ≤ ne ∧ v79 = .int .i64 i ∧ ∃ ao' m c', v0 = .slice ao' m c' ∧ Hid (PkS w1 base (.slice ao xs.length c) v0 (xs ++ [6 + 1] ++ pkE (e.take i)) wr) ∧ Hid ((xs ++ [6 + 1] ++ pkE (e.take i)).length = m)) (fun _ v79 _ => ne - (intOf v79).toNat)
    case atStart => exact ⟨0, Nat.zero_le _, rfl, ao2, xs.length + 1, c2, rfl, Lib.hid (by rw [List.take_zero, show pkE [] = [] from rfl, List.append_nil]; exact HS2.out), Lib.hid (by rw [List.take_zero, show pkE [] = [] from rfl, List.append_nil]; exact HYL.out)⟩
    case round =>
      obtain ⟨i, hi, rfl, ao', m, c', rfl, hsr, HM⟩ := hrel
      have hwb : base ≤ wr.heap.size := Nat.le_trans hb1 hsr.out.g.size
      by_cases hlt : i < ne
      · obtain ⟨x, hx⟩ : ∃ x, e[i]? = some x := ⟨_, List.getElem?_eq_getElem (by rw [HNE.out]; exact hlt)⟩
        have hvr := hsr.out.old HV1.out HOB.out
        obtain ⟨b, off, hbd, hBb, hbl, hcs⟩ := hvr.e.entry (by show 0 < e.length; rw [HNE.out]; omega)
        simp only at hbd
        subst hbd
        obtain ⟨-, gk, p, hp, hvp, gs⟩ := hcs i x hx
        obtain ⟨g0, g1, g2, g3, g4, g5⟩ := gs.seven
        have hgx : Good p.v := by rw [hp]; exact HG.out.e x (List.mem_of_getElem? hx)
        have hle := pkE_le hx
        have htk := pkE_take hx
        rw [← hp] at hle htk
        have hks : x.1.size ≤ 100 := (keyE_short e none HG.out.keys x (List.mem_of_getElem? hx)).1
        obtain ⟨ck, hck⟩ : ∃ ck, chainB x.1.data.toList = ck := ⟨_, rfl⟩
        rw [hck] at hle htk
        have hml : m + 1 + ck.length + p.v.pk.length ≤ 100000000 := by
          have := HM.out
          rw [List.length_append, List.length_append] at this
          simp at this; omega
        have hne6 : (Value.slice ao' m c').ownBlock ≠ some wr.heap.size := fun e => by have := (hsr.out.o.base _ e).2; omega
        have hob6 : ∀ k, (Value.slice ao' m c').ownBlock = some k → base ≤ k := fun k e => (hsr.out.o.base k e).1
        have hh6 : (wr.alloc (.cells #[.string x.1, .int .i64 p.v.k, .int .i64 p.v.n, .int .u64 p.v.f, .string p.v.s, .slice p.ad p.v.l.length p.cap, .slice p.bd p.v.e.length p.dap] 51)).heap[wr.heap.size]? = some (.cells #[.string x.1, .int .i64 p.v.k, .int .i64 p.v.n, .int .u64 p.v.f, .string p.v.s, .slice p.ad p.v.l.length p.cap, .slice p.bd p.v.e.length p.dap] 51) := heap_alloc_new wr _
        have hv6 : VAt (wr.alloc (.cells #[.string x.1, .int .i64 p.v.k, .int .i64 p.v.n, .int .u64 p.v.f, .string p.v.s, .slice p.ad p.v.l.length p.cap, .slice p.bd p.v.e.length p.dap] 51)) (· < base) p := hvp.keep ((Below.refl _ wr).alloc (Nat.le_refl _) _)
        have hs6 : PkS (wr.alloc (.cells #[.string x.1, .int .i64 p.v.k, .int .i64 p.v.n, .int .u64 p.v.f, .string p.v.s, .slice p.ad p.v.l.length p.cap, .slice p.bd p.v.e.length p.dap] 51)) base (.slice ao' m c') (.slice ao' m c') (xs ++ [6 + 1] ++ pkE (e.take i)) (wr.alloc (.cells #[.string x.1, .int .i64 p.v.k, .int .i64 p.v.n, .int .u64 p.v.f, .string p.v.s, .slice p.ad p.v.l.length p.cap, .slice p.bd p.v.e.length p.dap] 51)) := PkS.start (hsr.out.o.keep ((Below.refl _ wr).alloc (Nat.le_refl _) _))
        have hgr6 : wr.grownBy (wr.alloc (.cells #[.string x.1, .int .i64 p.v.k, .int .i64 p.v.n, .int .u64 p.v.f, .string p.v.s, .slice p.ad p.v.l.length p.cap, .slice p.bd p.v.e.length p.dap] 51)) none := World.grownBy_alloc wr _ none
        have hsz6 : wr.heap.size < (wr.alloc (.cells #[.string x.1, .int .i64 p.v.k, .int .i64 p.v.n, .int .u64 p.v.f, .string p.v.s, .slice p.ad p.v.l.length p.cap, .slice p.bd p.v.e.length p.dap] 51)).heap.size := by simp
        have HIX := Lib.hid (fun ao c xs w h1 h2 h3 h4 => IH.out ao c xs p w (by rw [hp]; exact V.lt_e (List.mem_of_getElem? hx)) h1 h2 h3 hgx h4)
        have HTK := Lib.hid htk
        have HCK := Lib.hid hck
        clear hx hvr hcs hvp hle htk hgx hp hck gs
        go_upto_region 24 with fail
        generalize hw6 : World.alloc wr _ = w6 at hh6 hv6 hs6 hgr6 hsz6 ⊢
        clear hw6 g0 g1 g2 g3 g4 g5 gk
        have hb6 : base ≤ w6.heap.size := by omega
        have sev : ∀ W : World, W.heap[wr.heap.size]? = w6.heap[wr.heap.size]? → Seven W wr.heap.size x.1 p := fun W hW => by
          have hW2 := hW.trans hh6
          refine ⟨?_, ?_, ?_, ?_, ?_, ?_, ?_⟩ <;> simp [World.cell?, hW2]
        have hc6 : CellsAt w6 wr.heap.size 1 p := by constructor <;> simp [World.cell?, hh6]
        have hpr := pack_round HIX.out hv6 hob6 hc6 hsz6 hne6 hb6 (m3 := m + 1 + ck.length) (m4 := m + 1 + ck.length + p.v.pk.length) (ys := xs ++ [6 + 1] ++ pkE (e.take i) ++ [1] ++ ck) (by rw [List.length_append, List.length_append, HM.out]; rfl) rfl hml
        simp only [Loc.val] at hpr
        have hm8 : m + 1 + ck.length ≤ 100000000 := by omega
        obtain ⟨m3, hm3⟩ : ∃ m3, m + 1 + ck.length = m3 := ⟨_, rfl⟩
        rw [hm3] at hpr hml hm8
        obtain ⟨m4, hm4⟩ : ∃ m4, m3 + p.v.pk.length = m4 := ⟨_, rfl⟩
        rw [hm4] at hpr hml
        have hm7 : m + 1 ≤ 100000000 := by omega
        have hchn : ∀ ao7 c7 W7, PkS w6 base (.slice ao' m c') (.slice ao7 (m + 1) c7) (xs ++ [6 + 1] ++ pkE (e.take i) ++ [1]) W7 → Calls Tryd.prog 30 #[.slice ao7 (m + 1) c7, .string x.1] W7 (ChR w6 base (.slice ao' m c') m3 (xs ++ [6 + 1] ++ pkE (e.take i) ++ [1] ++ ck)) := fun ao7 c7 W7 h7 =>
          chain_round hb6 (by rw [List.length_append, HM.out]; rfl) hm3 (by omega) hks HCK.out ao7 c7 W7 h7
        have HCHN := Lib.hid hchn
        have HPR := Lib.hid hpr
        have HM3 := Lib.hid hm3
        have HM4 := Lib.hid hm4
        have HS6 := Lib.hid hs6
        have HGR6 := Lib.hid hgr6
        have HNE6 := Lib.hid hne6
        have hs6d : PkS w6 base (.slice ao' m c') (.slice ao' m c') (xs ++ [6 + 1] ++ pkE (e.take i)) w6.drew := HS6.out.quiet (Gx.drewN_below w6 1 _)
        have hb6d : base ≤ w6.drew.heap.size := hb6
        have hk6 : Seven w6.drew wr.heap.size x.1 p := sev _ rfl
        have hk6a : Seven (w6.drew.alloc (.cells #[.int .u8 1] 5)) wr.heap.size x.1 p := sev _ (Below.heap_alloc w6.drew _ _ hsz6)
        have hsv : ∀ u ys W, PkS w6 base (.slice ao' m c') u ys W → Seven W wr.heap.size x.1 p := fun u ys W h => sev W (h.g.block _ hsz6 (fun e => HNE6.out e.symm))
        have HSV := Lib.hid hsv
        have HS6d := Lib.hid hs6d
        clear hs6d hc6 hpr hm4 hm3 hs6 hgr6 hv6 hob6 hne6 hchn sev hsv hh6
        unfold Seven at hk6 hk6a
        go_region_held3 (fun w' => w'.cell? ⟨wr.heap.size, 0, none⟩ = some (.string x.1) ∧ w'.cell? ⟨wr.heap.size, 1, none⟩ = some (.int .i64 p.v.k) ∧ w'.cell? ⟨wr.heap.size, 2, none⟩ = some (.int .i64 p.v.n) ∧ w'.cell? ⟨wr.heap.size, 3, none⟩ = some (.int .u64 p.v.f) ∧ w'.cell? ⟨wr.heap.size, 4, none⟩ = some (.string p.v.s) ∧ w'.cell? ⟨wr.heap.size, 5, none⟩ = some (.slice p.ad p.v.l.length p.cap) ∧ w'.cell? ⟨wr.heap.size, 6, none⟩ = some (.slice p.bd p.v.e.length p.dap)) (first | exact hk6 | exact hk6a | exact hk7 | exact hk8 | exact hk9 | go_keep)
          (first
            | (refine step_pushB w6.drew rfl (.tmp 83) (.tmp 84) rfl base (.slice ao' m c') (xs ++ [6 + 1] ++ pkE (e.take i)) 1 _ rfl rfl HS6d.out.o rfl m HM.out (by omega) hb6d ?_; intro ao7 c7 w7 ho7 hg7 hm7; have hs7 := HS6d.out.step ho7 hg7 hm7; have hk7 : Seven w7 wr.heap.size x.1 p := HSV.out _ _ _ hs7; unfold Seven at hk7; have HS7 := Lib.hid hs7; clear ho7 hg7 hm7 hs7)
            | (go_simp; refine (HCHN.out _ _ _ HS7.out).mono ?_; rintro e w8 ⟨ao8, c8, rfl, hs8⟩; have hk8 : Seven w8 wr.heap.size x.1 p := HSV.out _ _ _ hs8; unfold Seven at hk8; have HS8 := Lib.hid hs8; clear hs8)
            | (go_simp; refine (HPR.out _ _ _ HS8.out).mono ?_; rintro e w9 ⟨ao9, c9, rfl, hs9, -⟩; have hk9 : Seven w9 wr.heap.size x.1 p := HSV.out _ _ _ hs9; unfold Seven at hk9; have HS9 := Lib.hid hs9; clear hs9))
        have H1 : Hid ((xs ++ [6 + 1] ++ pkE (e.take (i + 1))).length = m4) := Lib.hid (by
          rw [HTK.out, ← List.append_assoc, List.length_append, HM.out, List.length_cons, List.length_append, ← HM4.out, ← HM3.out]; omega)
        have H2 : Hid (PkS w1 base (.slice ao xs.length c) (.slice ao9 m4 c9) (xs ++ [6 + 1] ++ pkE (e.take (i + 1))) w9) := Lib.hid (by
          have h1 := HS9.out
          have h2 : PkS wr base (.slice ao' m c') (.slice ao9 m4 c9) (xs ++ [6 + 1] ++ pkE (e.take i) ++ [1] ++ ck ++ p.v.pk) w9 := ⟨h1.o, ⟨h1.g.os.trans HGR6.out.os, h1.g.tape.trans HGR6.out.tape, h1.g.output.trans HGR6.out.output, Nat.le_trans HGR6.out.size h1.g.size, fun k hk hne => (h1.g.block k (Nat.lt_of_lt_of_le hk HGR6.out.size) hne).trans (HGR6.out.block k hk (by simp))⟩,
            by rcases h1.m with h | ⟨g, h, h'⟩; exact .inl h; exact .inr ⟨g, h, Nat.le_trans HGR6.out.size h'⟩⟩
          rw [HTK.out, show (1 :: (ck ++ p.v.pk)) = [1] ++ ck ++ p.v.pk from by simp, ← List.append_assoc, ← List.append_assoc, ← List.append_assoc]
          exact hsr.out.step (by simpa only [List.append_assoc] using h2.o) h2.g h2.m)
        clear HS9 HS8 HS7 HS6d HS6 HPR hk6 hk6a hk7 hk8 hk9 hsr HM
        go_wp2_with fail
        go_roundw
        case rel => exact ⟨i + 1, by omega, by go_num, ao9, m4, c9, rfl, H2, H1⟩
        case measure => simp [intOf]; omega
      · obtain rfl : i = ne := by omega
        rw [List.take_of_length_le (Nat.le_of_eq HNE.out)] at hsr HM
        have hm9 : m + 1 ≤ 100000000 := by have := HM.out; rw [List.length_append, List.length_append] at this; simp at this; omega
        clear hlt hi
        go_wp2_with (at_builtin; refine wpList_pushB wr rfl (.tmp 93) (.tmp 94) rfl base (.slice ao' m c') (xs ++ [6 + 1] ++ pkE e) 0 _ rfl rfl hsr.out.o rfl m HM.out (by omega) hwb ?_; intro ao3 c3 w3 ho3 hg3 hm3)
        try go_ret
        exact (hsr.out.step ho3 hg3 hm3).fin' HGR.out (by rw [HPQ.out]; simp) (by rw [HPQ.out, ← HM.out]; simp; omega)
/-- packed, whatever good value -/
theorem packed_any (base : Nat) (ao : Option Addr) (c : Nat) (xs : List Int) (q : Loc) (w : World) (h : Out w base (.slice ao xs.length c) xs) (hb : base ≤ w.heap.size) (hv : VAt w (· < base) q) (hg : Good q.v) (hl : xs.length + q.v.pk.length ≤ 100000000) :
    Calls Tryd.prog 16 #[.slice ao xs.length c, q.val] w (OutPost base (.slice ao xs.length c) xs q.v.pk w) := by
  have key : ∀ (n : Nat) (ao : Option Addr) (c : Nat) (xs : List Int) (q : Loc) (w : World), SizeOf.sizeOf q.v ≤ n → Out w base (.slice ao xs.length c) xs → base ≤ w.heap.size → VAt w (· < base) q → Good q.v → xs.length + q.v.pk.length ≤ 100000000 →
      Calls Tryd.prog 16 #[.slice ao xs.length c, q.val] w (OutPost base (.slice ao xs.length c) xs q.v.pk w) := by
    intro n
    induction n with
    | zero => intro ao c xs q w h; cases q with | mk v _ _ _ _ => cases v; simp at h
    | succ n ih =>
      intro ao c xs q w hs h hb hv hg hl
      obtain ⟨⟨k, n', f, s, l, e⟩, ad, cap, bd, dap⟩ := q
      exact packed_step base ao c xs k n' f s l e ad bd cap dap w h hb hv hg hl (fun ao c xs q w h1 h2 h3 h4 h5 h6 => ih ao c xs q w (by simp only at hs; omega) h2 h3 h4 h5 h6)
  exact key _ ao c xs q w (Nat.le_refl _) h hb hv hg hl
end Go.Proofs.YtmpaaedccodjaaaDoor
