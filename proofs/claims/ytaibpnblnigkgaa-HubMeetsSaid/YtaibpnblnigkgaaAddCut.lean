/-
  The contract of the builder's add, of a cut. Conditions: the builder lies in memory of the call's own.
-/
import Derived.Test.YtaibpnblnigkgaaAddObj
namespace Go.Proofs.Ytaibpnblnigkgaa
open Go.RowKit Gx

set_option maxHeartbeats 4000000 in
theorem add_cut (w : World) (base : Nat) (F : Nat → Prop) (g : Nat) (st : Bst) (v : Value) (q : Part) (h : Bd w base F g st v) (hb : base ≤ w.heap.size) (hq : okP q) (hs : Small st q) (hk2 : q.1 = 2) :
    Calls Try.prog 35 #[.pointer (some ⟨g, 0, none⟩), partVal q] w (BdPost w base F g (addS st q)) := by
  obtain ⟨l, c, p⟩ := st
  obtain ⟨kind, n, s⟩ := q
  have hlow := h.low
  obtain ⟨wb, hwb⟩ : ∃ wb, wb = w.alloc (.cells #[.int .i64 kind, .int .i64 n, .string (bs s)] 54) := ⟨_, rfl⟩
  have hcb : Chg (fun _ => False) w wb := by rw [hwb]; exact (Chg.refl _ w).alloc _
  have hbd := h.keep hcb (fun k _ f => f)
  have e0 : wb.cell? ⟨w.heap.size, 0, none⟩ = some (.int .i64 kind) := by rw [hwb]; exact World.cell?_alloc_mark w _ _ (0, 0) 0
  have e1 : wb.cell? ⟨w.heap.size, 1, none⟩ = some (.int .i64 n) := by rw [hwb]; exact World.cell?_alloc_mark w _ _ (0, 0) 1
  have e2 : wb.cell? ⟨w.heap.size, 2, none⟩ = some (.string (bs s)) := by rw [hwb]; exact World.cell?_alloc_mark w _ _ (0, 0) 2
  have hwsz : w.heap.size < wb.heap.size := by rw [hwb]; simp
  obtain ⟨hk, hn, h3, h4⟩ := hq
  simp only at hk hn h3 h4
  have s1 := hs.l
  have s2 := hs.c
  have s3 := hs.p
  have s4 := hs.n
  have s5 := hs.s
  simp only at s1 s2 s3 s4 s5
  unfold partVal
  simp only
  have c0 := hbd.cell0
  have c1 := hbd.cell1
  have c2 := hbd.cell2
  have f0 := hbd.froz 0
  have f1 := hbd.froz 1
  have f2 := hbd.froz 2
  have hlt := hbd.lt
  simp only at c0 c1 c2
  obtain ⟨vo, vc, rfl⟩ := hbd.form
  have HB := Lib.hid hbd
  have HC := Lib.hid hcb
  have HW := Lib.hid hwb
  have HK := Lib.hid hs.k
  have HL := Lib.hid hlow
  clear hbd hcb h hs hlow
  obtain rfl : kind = 2 := hk2
  obtain rfl := h4 (by decide)
  clear h3 h4
  obtain ⟨m, rfl⟩ : ∃ m : Nat, n = m := ⟨n.toNat, by omega⟩
  go_enter Try.func35, Try.ntmps35
  go_wp2_with fail
  rw [← HW.out]
  clear hwb HW
  go_region
  all_goals
    go_wp2
    go_end0
    have h := (HB.out.cutTo (c + m)).drew
    rw [Int.natCast_add] at h
    refine ⟨rfl, F, _, h, fun k hk => .inl hk, ?_⟩
    exact ((HC.out.mono (fun _ f => f.elim)).set (.inl HB.out.fg) _).drew
end Go.Proofs.Ytaibpnblnigkgaa
