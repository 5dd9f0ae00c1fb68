/-
  The contract of the builder's add, of what is kept behind another. Conditions: the builder lies in memory of the call's own.
-/
import Derived.Test.YtaibpnblnigkgaaAddObj
namespace Go.Proofs.Ytaibpnblnigkgaa
open Go.RowKit Gx

set_option maxHeartbeats 4000000 in
theorem add_push (w : World) (base : Nat) (F : Nat → Prop) (g : Nat) (st : Bst) (v : Value) (q : Part) (h : Bd w base F g st v) (hb : base ≤ w.heap.size) (hq : okP q) (hs : Small st q) (hk1 : q.1 = 1) (hn1 : q.2.1 ≠ 0) (M : List Part) (z : Part) (hL : (flushS st).1 = M ++ [z]) (hz : z.1 ≠ 1) :
    Calls Try.prog 35 #[.pointer (some ⟨g, 0, none⟩), partVal q] w (BdPost w base F g (addS st q)) := by
  obtain ⟨l, c, p⟩ := st
  obtain ⟨kind, n, s⟩ := q
  have hlow := h.low
  obtain ⟨wb, hwb⟩ : ∃ wb, wb = w.alloc (.cells #[.int .i64 kind, .int .i64 n, .string (bs s)] 54) := ⟨_, rfl⟩
  have hcb : Chg (fun _ => False) w wb := by rw [hwb]; exact (Chg.refl _ w).alloc _
  have hbd := h.keep hcb (fun k _ f => f)
  have e0 : wb.cell? ⟨w.heap.size, 0, none⟩ = some (.int .i64 kind) := by rw [hwb]; exact World.cell?_alloc_mark w _ _ (0, 0) 0
  have e1 : wb.cell? ⟨w.heap.size, 1, none⟩ = some (.int .i64 n) := by rw [hwb]; exact World.cell?_alloc_mark w _ _ (0, 0) 1
  have e2 : wb.cell? ⟨w.heap.size, 2, none⟩ = some (.string (bs s)) := by rw [hwb]; exact World.cell?_alloc_mark w _ _ (0, 0) 2
  have hwsz : w.heap.size < wb.heap.size := by rw [hwb]; simp
  obtain ⟨hk, hn, h3, h4⟩ := hq
  simp only at hk hn h3 h4
  have s1 := hs.l
  have s2 := hs.c
  have s3 := hs.p
  have s4 := hs.n
  have s5 := hs.s
  simp only at s1 s2 s3 s4 s5
  unfold partVal
  simp only
  have c0 := hbd.cell0
  have c1 := hbd.cell1
  have c2 := hbd.cell2
  have f0 := hbd.froz 0
  have f1 := hbd.froz 1
  have f2 := hbd.froz 2
  have hlt := hbd.lt
  simp only at c0 c1 c2
  obtain ⟨vo, vc, rfl⟩ := hbd.form
  have HB := Lib.hid hbd
  have HC := Lib.hid hcb
  have HW := Lib.hid hwb
  have HK := Lib.hid hs.k
  have HL := Lib.hid hlow
  clear hbd hcb h hs hlow
  obtain rfl : kind = 1 := hk1
  obtain rfl := h4 (by decide)
  clear h3 h4
  have hn0 : ¬ n = 0 := hn1
  obtain ⟨m, rfl⟩ : ∃ m : Nat, n = m := ⟨n.toNat, by omega⟩
  have hn1 : ((m : Int) = 0) = False := by simp; omega
  go_enter Try.func35, Try.ntmps35
  go_wp2_with fail
  rw [← HW.out]
  clear hwb HW c0 c1 c2 f0 f1 f2 hn1
  refine (flush_any wb base F g (l, c, p) _ HB.out (by omega) s1 s2).mono ?_
  rintro e w2 ⟨rfl, F2, v2, hb2, hF2, hc2⟩
  have hlen := flush_len (l, c, p)
  have hwt : wt (l, c, p) ≤ l.length + 2 := by unfold wt; simp only; split <;> split <;> omega
  have hk2 : ∀ x ∈ (flushS (l, c, p)).1, 0 ≤ x.2.1 ∧ x.2.1 ≤ 100000 := by
    intro x hx
    simp only [flushS, List.mem_append] at hx
    rcases hx with (hx | hx) | hx
    · exact HK.out x hx
    · unfold putOut at hx; split at hx
      · simp at hx
      · simp at hx; subst hx; exact ⟨by simp, by simp⟩
    · unfold cutOut at hx; split at hx
      · simp at hx
      · simp at hx; subst hx; exact ⟨by simp, by simp; omega⟩
  have hadd : addS (l, c, p) (1, (m : Int), []) = (keepOn (flushS (l, c, p)).1 m, 0, []) := by simp [addS, show ¬ m = 0 by omega]
  obtain ⟨L2, hL2⟩ : ∃ L2, L2 = (flushS (l, c, p)).1 := ⟨_, rfl⟩
  have hfl : flushS (l, c, p) = (L2, 0, []) := by rw [hL2]; rfl
  rw [hfl] at hb2
  rw [← hL2] at hlen hk2 hadd
  obtain rfl : L2 = M ++ [z] := hL2.trans hL
  clear hL
  have HA := Lib.hid hadd
  rw [hlen.symm] at hwt
  have hw2 := hc2.size
  have g0 := (hc2.cell (a := ⟨w.heap.size, 0, none⟩) hwsz (fun hf => Nat.lt_irrefl _ (HL.out _ hf).2)).trans e0
  have g1 := (hc2.cell (a := ⟨w.heap.size, 1, none⟩) hwsz (fun hf => Nat.lt_irrefl _ (HL.out _ hf).2)).trans e1
  have g2 := (hc2.cell (a := ⟨w.heap.size, 2, none⟩) hwsz (fun hf => Nat.lt_irrefl _ (HL.out _ hf).2)).trans e2
  have hcall : Chg F w w2 := (HC.out.mono (fun _ f => f.elim)).trans hc2 (fun k hk => .inl hk)
  have HB2 := Lib.hid hb2
  have HF2 := Lib.hid hF2
  have HF3 : Hid (∀ k, F2 k → F k ∨ w.heap.size ≤ k) := fun k hk => (hF2 k hk).imp id (fun h => by omega)
  have HC2 := Lib.hid hcall
  clear hcall hc2 hF2 hb2 hlen hadd hL2 hfl e0 e1 e2 HK HB HC s2 s3 s5 hlt
  have c0 := HB2.out.cell0
  have f0 := HB2.out.froz 0
  have hlt := HB2.out.lt
  try simp only at c0
  have hform := HB2.out.own.form (by simp)
  obtain ⟨r, cap, rfl, hr1, hr2⟩ := hform
  have hcells := HB2.out.own
  obtain ⟨hz0, hz1⟩ := hk2 z (by simp)
  have hp := partCells_at (M ++ [z]) M.length z (by simp)
  have hln : (M ++ [z]).length = M.length + 1 := by simp
  have k0 : w2.cell? ⟨r, M.length * 3, none⟩ = some (.int .i64 z.1) := by
    rw [hcells.cellAt _ (by rw [hln]; omega)]; exact hp.1
  have k1 : w2.cell? ⟨r, M.length * 3 + 1, none⟩ = some (.int .i64 z.2.1) := by
    rw [hcells.cellAt _ (by rw [hln]; omega)]; exact hp.2.1
  have k2 : w2.frozen? ⟨r, M.length * 3 + 1, none⟩ = false := hcells.frozenAt _
  clear hp hcells hr1 hk2
  obtain ⟨N, hN⟩ : ∃ N, N = M.length := ⟨_, rfl⟩
  rw [← hN] at k0 k1 k2
  rw [hln, ← hN] at HB2 c0 hwt
  have HN := Lib.hid hN
  clear hN hln
  have hz' : decide (z.1 = 1) = false := decide_eq_false hz
  go_wp2_with fail
  go_region_law (refine step_push rfl (.tmp 72) (.tmp 74) rfl HB2.out (by omega) (1, (m : Int), []) _ rfl rfl rfl (by have := HN.out; simp only [List.length_append, List.length_cons, List.length_nil]; omega) ?_; intro g3 cap3 w3 HP3 hc3 hf3)
  all_goals
    go_wp2
    go_end0
    rw [HA.out, keepOn_last, if_neg hz]
    have hb3 := HP3.bd
    have hch3 := HP3.chg
    simp only [List.length_append, List.length_cons, List.length_nil, Nat.zero_add] at hb3 hch3
    refine ⟨rfl, _, _, hb3, fun k hk => ?_, HC2.out.trans hch3 HF3.out⟩
    rcases hk with hk | hk
    · exact HF3.out k hk
    · exact .inr (by omega)
end Go.Proofs.Ytaibpnblnigkgaa
