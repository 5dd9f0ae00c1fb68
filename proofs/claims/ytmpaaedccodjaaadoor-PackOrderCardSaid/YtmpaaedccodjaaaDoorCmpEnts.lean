/-
  The contract of slices.CompareFunc over entries. No conditions.
-/
import Derived.Test.YtmpaaedccodjaaaDoorCmpFunc
namespace Go.Proofs.YtmpaaedccodjaaaDoor
open Go.RowKit Gx
set_option maxRecDepth 100000

/-- an entry in a block of its own -/
structure SevAt (w : World) (b : Nat) (key : ByteArray) (q : Loc) : Prop where
  k : w.cell? ⟨b, 0, none⟩ = some (.string key)
  c0 : w.cell? ⟨b, 1, none⟩ = some (.int .i64 q.v.k)
  c1 : w.cell? ⟨b, 2, none⟩ = some (.int .i64 q.v.n)
  c2 : w.cell? ⟨b, 3, none⟩ = some (.int .u64 q.v.f)
  c3 : w.cell? ⟨b, 4, none⟩ = some (.string q.v.s)
  c4 : w.cell? ⟨b, 5, none⟩ = some (.slice q.ad q.v.l.length q.cap)
  c5 : w.cell? ⟨b, 6, none⟩ = some (.slice q.bd q.v.e.length q.dap)
theorem SevAt.box {w : World} {b : Nat} {key : ByteArray} {q : Loc} {ty : TypeId} (h : w.heap[b]? = some (.cells #[.string key, .int .i64 q.v.k, .int .i64 q.v.n, .int .u64 q.v.f, .string q.v.s, .slice q.ad q.v.l.length q.cap, .slice q.bd q.v.e.length q.dap] ty)) : SevAt w b key q := by
  constructor <;> simp [World.cell?, h]
theorem SevAt.through {w w' : World} {b : Nat} {key : ByteArray} {q : Loc} (h : SevAt w b key q) (hb : w'.heap[b]? = w.heap[b]?) : SevAt w' b key q := by
  have hq : ∀ o, w'.cell? ⟨b, o, none⟩ = w.cell? ⟨b, o, none⟩ := fun o => World.cell?_of_block hb
  exact ⟨(hq _).trans h.k, (hq _).trans h.c0, (hq _).trans h.c1, (hq _).trans h.c2, (hq _).trans h.c3, (hq _).trans h.c4, (hq _).trans h.c5⟩
set_option maxHeartbeats 8000000 in
theorem cmpEnts_any (f : ByteArray × V → ByteArray × V → Int) (l l' : List (ByteArray × V)) (ad ad' : Option Addr) (cap cap' : Nat) (w : World) (h : RowAt w (fun _ => True) true l (.slice ad l.length cap)) (h' : RowAt w (fun _ => True) true l' (.slice ad' l'.length cap'))
    (ih : ∀ (x y : ByteArray × V) (q p : Loc) (w : World), x ∈ l → q.v = x.2 → p.v = y.2 → VAt w (fun _ => True) q → VAt w (fun _ => True) p → Calls Tryd.prog 26 #[.agg #[.string x.1, .int .i64 q.v.k, .int .i64 q.v.n, .int .u64 q.v.f, .string q.v.s, .slice q.ad q.v.l.length q.cap, .slice q.bd q.v.e.length q.dap], .agg #[.string y.1, .int .i64 p.v.k, .int .i64 p.v.n, .int .u64 p.v.f, .string p.v.s, .slice p.ad p.v.l.length p.cap, .slice p.bd p.v.e.length p.dap]] w (IntPost (f x y) w)) :
    Calls Tryd.prog 25 #[.slice ad l.length cap, .slice ad' l'.length cap', .func (.func 26) #[] #[]] w (IntPost (cmpL f l l') w) := by
  have hb := h.ebound
  have hb' := h'.ebound
  obtain ⟨n, hn⟩ : ∃ n, l.length = n := ⟨_, rfl⟩
  obtain ⟨n', hn'⟩ : ∃ n', l'.length = n' := ⟨_, rfl⟩
  rw [hn] at hb h ⊢
  rw [hn'] at hb' h' ⊢
  have HN := Lib.hid hn
  have HN' := Lib.hid hn'
  have H := Lib.hid h
  have H' := Lib.hid h'
  have IH := Lib.hid ih
  clear hn hn' h h' ih
  go_enter Tryd.func25, Tryd.ntmps25
  go_wp2_with fail
  go_loopw [13] (fun v13 wr => ∃ k : Nat, k ≤ n ∧ v13 = .int .i64 k ∧ Hid (Below w.heap.size w wr) ∧ Hid (cmpL f (l.drop k) (l'.drop k) = cmpL f l l')) (fun v13 _ => n - (intOf v13).toNat)
  case atStart => exact ⟨0, Nat.zero_le _, rfl, Lib.hid (Below.refl _ _), rfl⟩
  case round =>
    obtain ⟨k, hk, rfl, HB, HK⟩ := hrel
    by_cases hlt : k < n
    · obtain ⟨x, hx⟩ : ∃ x, l[k]? = some x := ⟨_, List.getElem?_eq_getElem (by rw [HN.out]; exact hlt)⟩
      obtain ⟨b, off, hd, -, hbl, hcs⟩ := H.out.entry (by rw [HN.out]; omega)
      subst hd
      obtain ⟨-, gk, q, hqx, hvq, gs⟩ := hcs k x hx
      have HQX := Lib.hid hqx
      clear hqx
      have gk' : wr.cell? ⟨b, off + k * 7, none⟩ = _ := (World.cell?_of_block (HB.out.block _ hbl)).trans gk
      obtain ⟨g0, g1, g2, g3, g4, g5⟩ := (gs.through (HB.out.block _ hbl)).seven
      have hc6 : SevAt (wr.alloc (.cells #[.string x.1, .int .i64 q.v.k, .int .i64 q.v.n, .int .u64 q.v.f, .string q.v.s, .slice q.ad q.v.l.length q.cap, .slice q.bd q.v.e.length q.dap] 51)) wr.heap.size x.1 q := SevAt.box (heap_alloc_new wr _)
      have hb6 : Below w.heap.size w (wr.alloc (.cells #[.string x.1, .int .i64 q.v.k, .int .i64 q.v.n, .int .u64 q.v.f, .string q.v.s, .slice q.ad q.v.l.length q.cap, .slice q.bd q.v.e.length q.dap] 51)) := HB.out.alloc HB.out.size _
      have hsz6 : wr.heap.size < (wr.alloc (.cells #[.string x.1, .int .i64 q.v.k, .int .i64 q.v.n, .int .u64 q.v.f, .string q.v.s, .slice q.ad q.v.l.length q.cap, .slice q.bd q.v.e.length q.dap] 51)).heap.size := by simp
      go_upto_region 4 with fail
      generalize hw6 : World.alloc wr _ = w6 at hc6 hb6 hsz6 ⊢
      clear hw6 gk gk' g0 g1 g2 g3 g4 g5 gs hcs
      have HB6 := Lib.hid hb6
      have HC6 := Lib.hid hc6
      have HQ := Lib.hid hvq
      have HX := Lib.hid hx
      clear hb6 hc6 hvq hx
      by_cases hlt2 : k < n'
      · have t1 : decide ((n' : Int) ≤ (k : Int)) = false := decide_eq_false (by omega)
        have t1n : decide (n' ≤ k) = false := decide_eq_false (by omega)
        obtain ⟨y, hy⟩ : ∃ y, l'[k]? = some y := ⟨_, List.getElem?_eq_getElem (by rw [HN'.out]; exact hlt2)⟩
        obtain ⟨b', off', hd, -, hbl', hcs⟩ := H'.out.entry (by rw [HN'.out]; omega)
        subst hd
        obtain ⟨-, gk, p, hpy, hvp, gs⟩ := hcs k y hy
        have HPY := Lib.hid hpy
        clear hpy
        have gk' : w6.cell? ⟨b', off' + k * 7, none⟩ = _ := (World.cell?_of_block (HB6.out.block _ hbl')).trans gk
        obtain ⟨g0, g1, g2, g3, g4, g5⟩ := (gs.through (HB6.out.block _ hbl')).seven
        have hc7 : SevAt (w6.alloc (.cells #[.string y.1, .int .i64 p.v.k, .int .i64 p.v.n, .int .u64 p.v.f, .string p.v.s, .slice p.ad p.v.l.length p.cap, .slice p.bd p.v.e.length p.dap] 51)) w6.heap.size y.1 p := SevAt.box (heap_alloc_new w6 _)
        have hb7 : Below w.heap.size w (w6.alloc (.cells #[.string y.1, .int .i64 p.v.k, .int .i64 p.v.n, .int .u64 p.v.f, .string p.v.s, .slice p.ad p.v.l.length p.cap, .slice p.bd p.v.e.length p.dap] 51)) := HB6.out.alloc HB6.out.size _
        have hb67 : SevAt (w6.alloc (.cells #[.string y.1, .int .i64 p.v.k, .int .i64 p.v.n, .int .u64 p.v.f, .string p.v.s, .slice p.ad p.v.l.length p.cap, .slice p.bd p.v.e.length p.dap] 51)) wr.heap.size x.1 q := HC6.out.through (Below.heap_alloc w6 _ _ hsz6)
        go_upto_region 7 with fail
        generalize hw7 : World.alloc w6 _ = w7 at hc7 hb7 hb67 ⊢
        clear hw7 gk gk' g0 g1 g2 g3 g4 g5 gs hcs t1 t1n
        obtain ⟨ak, a0, a1, a2, a3, a4, a5⟩ := hb67
        obtain ⟨dk, d0, d1, d2, d3, d4, d5⟩ := hc7
        have hih := IH.out x y q p w7 (List.mem_of_getElem? HX.out) HQX.out HPY.out (HQ.out.keep hb7) (hvp.keep hb7)
        have HIH := Lib.hid hih
        have hst := cmpL_step (f := f) HX.out hy
        rw [HK.out] at hst
        have HST := Lib.hid hst
        have HB7 := Lib.hid hb7
        clear hih hst hb7 hvp hy
        obtain ⟨r, hr⟩ : ∃ r, f x y = r := ⟨_, rfl⟩
        rw [hr] at HIH HST
        clear hr
        go_wp2_with fail
        (with_reducible refine HIH.out.mono ?_)
        rintro e w8 ⟨rfl, hb8⟩
        have HB8 := Lib.hid (HB7.out.trans (hb8.mono HB7.out.size))
        clear hb8 ak dk a0 a1 a2 a3 a4 a5 d0 d1 d2 d3 d4 d5
        by_cases h0 : r = 0
        · subst h0
          have HK2 : Hid (cmpL f (l.drop (k + 1)) (l'.drop (k + 1)) = cmpL f l l') := Lib.hid (by rw [HST.out]; rfl)
          go_wp2_with fail
          go_roundw
          case rel => exact ⟨k + 1, by omega, by go_num, HB8, HK2⟩
          case measure => simp [intOf]; omega
        · have t2 : (r != 0) = true := by simpa using h0
          have HR : Hid (cmpL f l l' = r) := Lib.hid (by rw [HST.out, if_pos h0])
          clear h0
          go_wp2_with fail
          try go_ret
          exact ⟨by rw [HR.out]; rfl, HB8.out⟩
      · have t1 : decide ((n' : Int) ≤ (k : Int)) = true := decide_eq_true (by omega)
        have t1n : decide (n' ≤ k) = true := decide_eq_true (by omega)
        have HR : Hid (cmpL f l l' = 1) := Lib.hid (by rw [← HK.out]; exact cmpL_long (by rw [HN.out]; exact hlt) (by rw [HN'.out]; omega))
        go_wp2_with fail
        try go_ret
        exact ⟨by rw [HR.out]; rfl, HB6.out⟩
    · obtain rfl : k = n := by omega
      have hke := HK.out
      rw [cmpL_end (Nat.le_of_eq HN.out), HN'.out] at hke
      have HKE := Lib.hid hke
      clear hke
      by_cases hlt2 : k < n'
      · have t1 : decide ((k : Int) < (n' : Int)) = true := decide_eq_true (by omega)
        have t1n : decide (k < n') = true := decide_eq_true (by omega)
        have HR : Hid (cmpL f l l' = -1) := Lib.hid (by rw [← HKE.out, if_pos hlt2])
        go_wp2_with fail
        try go_ret
        exact ⟨by rw [HR.out]; rfl, HB.out⟩
      · have t1 : decide ((k : Int) < (n' : Int)) = false := decide_eq_false (by omega)
        have t1n : decide (k < n') = false := decide_eq_false (by omega)
        have HR : Hid (cmpL f l l' = 0) := Lib.hid (by rw [← HKE.out, if_neg hlt2])
        go_wp2_with fail
        try go_ret
        exact ⟨by rw [HR.out]; rfl, HB.out⟩
end Go.Proofs.YtmpaaedccodjaaaDoor
