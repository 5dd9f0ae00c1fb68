/-
  The contracts of slices.CompareFunc over values and over entries. No conditions.
-/
import Derived.Test.YtmpaaedccodjaaaDoorCmpAll
namespace Go.Proofs.YtmpaaedccodjaaaDoor
open Go.RowKit Gx
set_option maxRecDepth 100000

def cmpL {α : Type} (f : α → α → Int) : List α → List α → Int
  | [], [] => 0
  | [], _ :: _ => -1
  | _ :: _, [] => 1
  | x :: xs, y :: ys => if f x y ≠ 0 then f x y else cmpL f xs ys
theorem cmpL_step {α : Type} {f : α → α → Int} {a b : List α} {k : Nat} {x y : α} (hx : a[k]? = some x) (hy : b[k]? = some y) : cmpL f (a.drop k) (b.drop k) = if f x y ≠ 0 then f x y else cmpL f (a.drop (k + 1)) (b.drop (k + 1)) := by
  obtain ⟨h1, e1⟩ := List.getElem?_eq_some_iff.1 hx
  obtain ⟨h2, e2⟩ := List.getElem?_eq_some_iff.1 hy
  rw [List.drop_eq_getElem_cons h1, List.drop_eq_getElem_cons h2, e1, e2, cmpL]
theorem cmpL_long {α : Type} {f : α → α → Int} {a b : List α} {k : Nat} (ha : k < a.length) (hb : b.length ≤ k) : cmpL f (a.drop k) (b.drop k) = 1 := by
  rw [List.drop_eq_getElem_cons ha, List.drop_of_length_le hb, cmpL]
theorem cmpL_end {α : Type} {f : α → α → Int} {a b : List α} {k : Nat} (ha : a.length ≤ k) : cmpL f (a.drop k) (b.drop k) = if k < b.length then -1 else 0 := by
  rw [List.drop_of_length_le ha]
  by_cases h : k < b.length
  · rw [if_pos h, List.drop_eq_getElem_cons h, cmpL]
  · rw [if_neg h, List.drop_of_length_le (by omega), cmpL]
def IntPost (c : Int) (w : World) (e : Ending) (w' : World) : Prop := e = .returned (.int .i64 c) ∧ Below w.heap.size w w'

set_option maxHeartbeats 8000000 in
theorem cmpVals_any (f : V → V → Int) (l l' : List V) (ad ad' : Option Addr) (cap cap' : Nat) (w : World) (h : RowAt w (fun _ => True) false (lp l) (.slice ad l.length cap)) (h' : RowAt w (fun _ => True) false (lp l') (.slice ad' l'.length cap'))
    (ih : ∀ (q p : Loc) (w : World), q.v ∈ l → VAt w (fun _ => True) q → VAt w (fun _ => True) p → Calls Tryd.prog 9 #[q.val, p.val] w (IntPost (f q.v p.v) w)) :
    Calls Tryd.prog 24 #[.slice ad l.length cap, .slice ad' l'.length cap', .func (.func 9) #[] #[]] w (IntPost (cmpL f l l') w) := by
  have hb := h.lbound
  have hb' := h'.lbound
  obtain ⟨n, hn⟩ : ∃ n, l.length = n := ⟨_, rfl⟩
  obtain ⟨n', hn'⟩ : ∃ n', l'.length = n' := ⟨_, rfl⟩
  rw [hn] at hb h ⊢
  rw [hn'] at hb' h' ⊢
  have HN := Lib.hid hn
  have HN' := Lib.hid hn'
  have H := Lib.hid h
  have H' := Lib.hid h'
  have IH := Lib.hid ih
  clear hn hn' h h' ih
  go_enter Tryd.func24, Tryd.ntmps24
  go_wp2_with fail
  go_loopw [13] (fun v13 wr => ∃ k : Nat, k ≤ n ∧ v13 = .int .i64 k ∧ Hid (Below w.heap.size w wr) ∧ Hid (cmpL f (l.drop k) (l'.drop k) = cmpL f l l')) (fun v13 _ => n - (intOf v13).toNat)
  case atStart => exact ⟨0, Nat.zero_le _, rfl, Lib.hid (Below.refl _ _), rfl⟩
  case round =>
    obtain ⟨k, hk, rfl, HB, HK⟩ := hrel
    by_cases hlt : k < n
    · obtain ⟨x, hx⟩ : ∃ x, l[k]? = some x := ⟨_, List.getElem?_eq_getElem (by rw [HN.out]; exact hlt)⟩
      obtain ⟨b, off, hd, -, hbl, hcs⟩ := H.out.elem (by rw [HN.out]; omega)
      subst hd
      obtain ⟨q, rfl, hvq, gs⟩ := hcs k x hx
      obtain ⟨g0, g1, g2, g3, g4, g5⟩ := gs.through (HB.out.block _ hbl)
      have hc6 : CellsAt (wr.alloc (.cells #[.int .i64 q.v.k, .int .i64 q.v.n, .int .u64 q.v.f, .string q.v.s, .slice q.ad q.v.l.length q.cap, .slice q.bd q.v.e.length q.dap] 26)) wr.heap.size 0 q := CellsAt.box (heap_alloc_new wr _)
      have hb6 : Below w.heap.size w (wr.alloc (.cells #[.int .i64 q.v.k, .int .i64 q.v.n, .int .u64 q.v.f, .string q.v.s, .slice q.ad q.v.l.length q.cap, .slice q.bd q.v.e.length q.dap] 26)) := HB.out.alloc HB.out.size _
      have hsz6 : wr.heap.size < (wr.alloc (.cells #[.int .i64 q.v.k, .int .i64 q.v.n, .int .u64 q.v.f, .string q.v.s, .slice q.ad q.v.l.length q.cap, .slice q.bd q.v.e.length q.dap] 26)).heap.size := by simp
      go_upto_region 4 with fail
      generalize hw6 : World.alloc wr _ = w6 at hc6 hb6 hsz6 ⊢
      clear hw6 g0 g1 g2 g3 g4 g5 gs hcs
      have HB6 := Lib.hid hb6
      have HC6 := Lib.hid hc6
      have HQ := Lib.hid hvq
      have HX := Lib.hid hx
      clear hb6 hc6 hvq hx
      by_cases hlt2 : k < n'
      · have t1 : decide ((n' : Int) ≤ (k : Int)) = false := decide_eq_false (by omega)
        have t1n : decide (n' ≤ k) = false := decide_eq_false (by omega)
        obtain ⟨y, hy⟩ : ∃ y, l'[k]? = some y := ⟨_, List.getElem?_eq_getElem (by rw [HN'.out]; exact hlt2)⟩
        obtain ⟨b', off', hd, -, hbl', hcs⟩ := H'.out.elem (by rw [HN'.out]; omega)
        subst hd
        obtain ⟨p, rfl, hvp, gs⟩ := hcs k y hy
        obtain ⟨g0, g1, g2, g3, g4, g5⟩ := gs.through (HB6.out.block _ hbl')
        have hc7 : CellsAt (w6.alloc (.cells #[.int .i64 p.v.k, .int .i64 p.v.n, .int .u64 p.v.f, .string p.v.s, .slice p.ad p.v.l.length p.cap, .slice p.bd p.v.e.length p.dap] 26)) w6.heap.size 0 p := CellsAt.box (heap_alloc_new w6 _)
        have hb7 : Below w.heap.size w (w6.alloc (.cells #[.int .i64 p.v.k, .int .i64 p.v.n, .int .u64 p.v.f, .string p.v.s, .slice p.ad p.v.l.length p.cap, .slice p.bd p.v.e.length p.dap] 26)) := HB6.out.alloc HB6.out.size _
        have hb67 : CellsAt (w6.alloc (.cells #[.int .i64 p.v.k, .int .i64 p.v.n, .int .u64 p.v.f, .string p.v.s, .slice p.ad p.v.l.length p.cap, .slice p.bd p.v.e.length p.dap] 26)) wr.heap.size 0 q := HC6.out.through (Below.heap_alloc w6 _ _ hsz6)
        go_upto_region 7 with fail
        generalize hw7 : World.alloc w6 _ = w7 at hc7 hb7 hb67 ⊢
        clear hw7 g0 g1 g2 g3 g4 g5 gs hcs t1 t1n
        obtain ⟨a0, a1, a2, a3, a4, a5⟩ := hb67
        obtain ⟨d0, d1, d2, d3, d4, d5⟩ := hc7
        have hih := IH.out q p w7 (List.mem_of_getElem? HX.out) (HQ.out.keep hb7) (hvp.keep hb7)
        simp only [Loc.val] at hih
        have HIH := Lib.hid hih
        have hst := cmpL_step (f := f) HX.out hy
        rw [HK.out] at hst
        have HST := Lib.hid hst
        have HB7 := Lib.hid hb7
        clear hih hst hb7 hvp hy
        obtain ⟨r, hr⟩ : ∃ r, f q.v p.v = r := ⟨_, rfl⟩
        rw [hr] at HIH HST
        clear hr
        go_wp2_with fail
        (with_reducible refine HIH.out.mono ?_)
        rintro e w8 ⟨rfl, hb8⟩
        have HB8 := Lib.hid (HB7.out.trans (hb8.mono HB7.out.size))
        clear hb8 a0 a1 a2 a3 a4 a5 d0 d1 d2 d3 d4 d5
        by_cases h0 : r = 0
        · subst h0
          have HK2 : Hid (cmpL f (l.drop (k + 1)) (l'.drop (k + 1)) = cmpL f l l') := Lib.hid (by rw [HST.out]; rfl)
          go_wp2_with fail
          go_roundw
          case rel => exact ⟨k + 1, by omega, by go_num, HB8, HK2⟩
          case measure => simp [intOf]; omega
        · have t2 : (r != 0) = true := by simpa using h0
          have HR : Hid (cmpL f l l' = r) := Lib.hid (by rw [HST.out, if_pos h0])
          clear h0
          go_wp2_with fail
          try go_ret
          exact ⟨by rw [HR.out]; rfl, HB8.out⟩
      · have t1 : decide ((n' : Int) ≤ (k : Int)) = true := decide_eq_true (by omega)
        have t1n : decide (n' ≤ k) = true := decide_eq_true (by omega)
        have HR : Hid (cmpL f l l' = 1) := Lib.hid (by rw [← HK.out]; exact cmpL_long (by rw [HN.out]; exact hlt) (by rw [HN'.out]; omega))
        go_wp2_with fail
        try go_ret
        exact ⟨by rw [HR.out]; rfl, HB6.out⟩
    · obtain rfl : k = n := by omega
      have hke := HK.out
      rw [cmpL_end (Nat.le_of_eq HN.out), HN'.out] at hke
      have HKE := Lib.hid hke
      clear hke
      by_cases hlt2 : k < n'
      · have t1 : decide ((k : Int) < (n' : Int)) = true := decide_eq_true (by omega)
        have t1n : decide (k < n') = true := decide_eq_true (by omega)
        have HR : Hid (cmpL f l l' = -1) := Lib.hid (by rw [← HKE.out, if_pos hlt2])
        go_wp2_with fail
        try go_ret
        exact ⟨by rw [HR.out]; rfl, HB.out⟩
      · have t1 : decide ((k : Int) < (n' : Int)) = false := decide_eq_false (by omega)
        have t1n : decide (k < n') = false := decide_eq_false (by omega)
        have HR : Hid (cmpL f l l' = 0) := Lib.hid (by rw [← HKE.out, if_neg hlt2])
        go_wp2_with fail
        try go_ret
        exact ⟨by rw [HR.out]; rfl, HB.out⟩
end Go.Proofs.YtmpaaedccodjaaaDoor
