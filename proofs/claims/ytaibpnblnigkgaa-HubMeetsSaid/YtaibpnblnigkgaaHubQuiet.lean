/-
  The contract of a hub's Quiet. Conditions: the hub lies in memory.
-/
import Derived.Test.YtaibpnblnigkgaaHubSend
namespace Go.Proofs.Ytaibpnblnigkgaa
open Go.RowKit Gx
set_option maxRecDepth 100000

/-- is something of this client's on its way -/
def Cl.busy (N : Nat) (c : Cl) : Bool := c.sent.is || c.held.is || decide (c.seen < N)
def Cl.val (c : Cl) : Value := .agg #[.string c.text, .int .i64 c.seen, .bool c.sent.is, .slice c.sent.ad c.sent.l.length c.sent.cap, .bool c.held.is, .slice c.held.ad c.held.l.length c.held.cap]
theorem six_cells {w : World} {b : Nat} {x0 x1 x2 x3 x4 x5 : Value} {ty : TypeId} {p : Nat × Nat} (h : w.heap[b]? = some (.cells #[x0, x1, x2, x3, x4, x5] ty p)) : w.cell? ⟨b, 1, none⟩ = some x1 ∧ w.cell? ⟨b, 2, none⟩ = some x2 ∧ w.cell? ⟨b, 4, none⟩ = some x4 :=
  ⟨by simp [World.cell?, h], by simp [World.cell?, h], by simp [World.cell?, h]⟩
theorem one_cell {w : World} {b : Nat} {x0 : Value} {ty : TypeId} {p : Nat × Nat} (h : w.heap[b]? = some (.cells #[x0] ty p)) : w.cell? ⟨b, 0, none⟩ = some x0 := by simp [World.cell?, h]
def Hb.quiet (h : Hb) : Bool := h.cls.all fun c => !c.busy h.log.length
set_option maxHeartbeats 4000000 in
theorem quiet1_any {B R C cap : Nat} {h : Hb} {w : World} (m : HM B R C cap h w) (P : Nat) (hP : w.cell? ⟨P, 0, none⟩ = some (.pointer (some ⟨R, 0, none⟩))) (hPl : P < w.heap.size) (c : Cl) :
    Calls Try.prog 28 #[c.val, .pointer (some ⟨P, 0, none⟩)] w fun e w' => e = .returned (.bool (c.busy h.log.length)) ∧ Below w.heap.size w w' := by
  obtain ⟨tx, sn, ⟨si, sl, sa, sc⟩, ⟨hi, hl, ha, hc⟩⟩ := c
  obtain ⟨lo, lc, hlv⟩ := m.lg
  obtain ⟨-, r1, -, -⟩ := m.cells
  rw [hlv] at r1
  have hRl := m.rlt
  obtain ⟨SL, hSL⟩ : ∃ SL, sl.length = SL := ⟨_, rfl⟩
  obtain ⟨HL, hHL⟩ : ∃ HL, hl.length = HL := ⟨_, rfl⟩
  obtain ⟨N, hN⟩ : ∃ N, h.log.length = N := ⟨_, rfl⟩
  rw [hN] at r1 ⊢
  have HN := Lib.hid hN
  have hbl := (Below.refl w.heap.size w).alloc (Nat.le_refl _) (.cells #[.string tx, .int .i64 sn, .bool si, .slice sa SL sc, .bool hi, .slice ha HL hc] 69)
  have p1 := (World.cell?_alloc_lt w (.cells #[.string tx, .int .i64 sn, .bool si, .slice sa SL sc, .bool hi, .slice ha HL hc] 69) ⟨P, 0, none⟩ hPl).trans hP
  have p2 := (World.cell?_alloc_lt w (.cells #[.string tx, .int .i64 sn, .bool si, .slice sa SL sc, .bool hi, .slice ha HL hc] 69) ⟨R, 1, none⟩ hRl).trans r1
  have hob := heap_alloc_new w (.cells #[.string tx, .int .i64 sn, .bool si, .slice sa SL sc, .bool hi, .slice ha HL hc] 69)
  obtain ⟨x1, x2, x4⟩ := six_cells hob
  unfold Cl.val
  simp only
  rw [hSL, hHL]
  clear m hlv r1 hRl hN hP hPl hSL hHL hob
  cases si with
  | true =>
    go_enter Try.func28, Try.ntmps28
    go_wp2_with fail
    go_quiet (fail)
    go_wp2_with fail
    try go_ret
    exact ⟨by simp [Cl.busy, HN.out, *], hbl.trans (Gx.drewN_below _ _ _)⟩
  | false =>
    cases hi with
    | true =>
      go_enter Try.func28, Try.ntmps28
      go_wp2_with fail
      go_quiet (fail)
      go_wp2_with fail
      try go_ret
      exact ⟨by simp [Cl.busy, HN.out, *], hbl.trans (Gx.drewN_below _ _ _)⟩
    | false =>
      by_cases hlt : sn < N
      · have t1 : decide ((sn : Int) < (N : Int)) = true := decide_eq_true (by omega)
        have t2 : decide (sn < N) = true := decide_eq_true hlt
        go_enter Try.func28, Try.ntmps28
        go_wp2_with fail
        go_quiet (fail)
        go_wp2_with fail
        try go_ret
        exact ⟨by simp [Cl.busy, HN.out, *], hbl.trans (Gx.drewN_below _ _ _)⟩
      · have t1 : decide ((sn : Int) < (N : Int)) = false := decide_eq_false (by omega)
        have t2 : decide (sn < N) = false := decide_eq_false hlt
        go_enter Try.func28, Try.ntmps28
        go_wp2_with fail
        go_quiet (fail)
        go_wp2_with fail
        try go_ret
        exact ⟨by simp [Cl.busy, HN.out, *], hbl.trans (Gx.drewN_below _ _ _)⟩

set_option maxHeartbeats 4000000 in
theorem index_any {B R C cap : Nat} {h : Hb} {w : World} (m : HM B R C cap h w) (P : Nat) (hP : w.cell? ⟨P, 0, none⟩ = some (.pointer (some ⟨R, 0, none⟩))) (hPl : P < w.heap.size) (h8 : h.cls.length ≤ 8) :
    Calls Try.prog 41 #[.slice (some ⟨C, 0, none⟩) h.cls.length cap, .func (.func 28) #[] #[.pointer (some ⟨P, 0, none⟩)]] w fun e w' =>
      ∃ r : Int, e = .returned (.int .i64 r) ∧ (0 ≤ r ↔ h.quiet = false) ∧ Below w.heap.size w w' := by
  have HMM := Lib.hid m
  have HP := Lib.hid hP
  obtain ⟨n, hn⟩ : ∃ n, h.cls.length = n := ⟨_, rfl⟩
  have HN := Lib.hid hn
  rw [hn] at h8 ⊢
  clear m hP hn
  go_enter Try.func41, Try.ntmps41
  go_wp2_with fail
  go_loopw [8] (fun v8 wr => ∃ j : Nat, j ≤ n ∧ v8 = .int .i64 j ∧ Hid (∀ i c, i < j → h.cls[i]? = some c → c.busy h.log.length = false) ∧ Below w.heap.size w wr) (fun v8 _ => n - (intOf v8).toNat)
  case atStart => exact ⟨0, Nat.zero_le _, rfl, Lib.hid (fun i c hi => absurd hi (Nat.not_lt_zero _)), Below.refl _ _⟩
  case round =>
    obtain ⟨j, hj, rfl, HB, hb⟩ := hrel
    by_cases hlt : j < n
    · obtain ⟨c, hc⟩ : ∃ c, h.cls[j]? = some c := ⟨_, List.getElem?_eq_getElem (by rw [HN.out]; exact hlt)⟩
      have hmr := HMM.out.below hb
      obtain ⟨d0, d1, d2, d3, d4, d5, -⟩ := hmr.row.cell hc
      have HQ := Lib.hid (quiet1_any hmr P ((hb.cell (p := ⟨P, 0, none⟩) hPl).trans HP.out) (Nat.lt_of_lt_of_le hPl hb.size) c)
      unfold Cl.val at HQ
      have hcap := hmr.cl
      have HC := Lib.hid hc
      have HBW := Lib.hid hb
      have i1 : (0 : Int) ≤ (j : Int) := by omega
      have i2 : (j : Int) < (n : Int) := by omega
      clear hmr hc hb
      by_cases hbz : c.busy h.log.length = true
      · rw [hbz] at HQ
        have HZ := Lib.hid hbz
        clear hbz
        go_wp2_with fail
        refine HQ.out.mono ?_
        rintro e w2 ⟨rfl, hb2⟩
        have HB2 := Lib.hid (HBW.out.trans (hb2.mono HBW.out.size))
        clear hb2
        go_wp2_with fail
        try go_ret
        refine ⟨j, rfl, ⟨fun _ => ?_, fun _ => by omega⟩, HB2.out⟩
        unfold Hb.quiet
        rw [List.all_eq_false]
        exact ⟨c, List.mem_of_getElem? HC.out, by rw [HZ.out]; decide⟩
      · have hbz2 : c.busy h.log.length = false := by simpa using hbz
        rw [hbz2] at HQ
        have HNX : Hid (∀ i c, i < j + 1 → h.cls[i]? = some c → c.busy h.log.length = false) := Lib.hid fun i c' hi hc' => by
          rcases Nat.lt_or_ge i j with h1 | h1
          · exact HB.out i c' h1 hc'
          · obtain rfl : i = j := by omega
            obtain rfl : c = c' := Option.some.inj (HC.out.symm.trans hc')
            exact hbz2
        clear hbz hbz2
        go_wp2_with fail
        refine HQ.out.mono ?_
        rintro e w2 ⟨rfl, hb2⟩
        have HB2 := Lib.hid (HBW.out.trans (hb2.mono HBW.out.size))
        clear hb2
        go_wp2_with fail
        exact ⟨⟨j + 1, by omega, by go_num, HNX, HB2.out⟩, by simp [intOf]; omega⟩
    · obtain rfl : j = n := by omega
      go_wp2_with fail
      try go_ret
      refine ⟨-1, rfl, ⟨fun h => absurd h (by decide), fun hq => ?_⟩, hb⟩
      exfalso
      unfold Hb.quiet at hq
      rw [List.all_eq_false] at hq
      obtain ⟨c, hc, hcb⟩ := hq
      obtain ⟨i, hi⟩ := List.getElem?_of_mem hc
      have := HB.out i c (by rw [← HN.out]; exact (List.getElem?_eq_some_iff.1 hi).1) hi
      rw [this] at hcb
      exact hcb rfl
theorem Quiet_any {B R C cap : Nat} {h : Hb} {w : World} (m : HM B R C cap h w) (h8 : h.cls.length ≤ 8) :
    Calls Try.prog 15 #[.pointer (some ⟨R, 0, none⟩)] w fun e w' => e = .returned (.bool h.quiet) ∧ Below w.heap.size w w' := by
  have hbl := (Below.refl w.heap.size w).alloc (Nat.le_refl _) (.cells #[.pointer (some ⟨R, 0, none⟩)] 24)
  have m2 := m.below hbl
  have hob := heap_alloc_new w (.cells #[.pointer (some ⟨R, 0, none⟩)] 24)
  have hP := one_cell hob
  have HI := Lib.hid (index_any m2 w.heap.size hP (by rw [World.size_alloc]; omega) h8)
  obtain ⟨-, -, r2, -⟩ := m2.cells
  have HBL := Lib.hid hbl
  have HCON : Hid (Calls Try.prog 27 #[.slice (some ⟨C, 0, none⟩) h.cls.length cap, .func (.func 28) #[] #[.pointer (some ⟨w.heap.size, 0, none⟩)]] (w.alloc (.cells #[.pointer (some ⟨R, 0, none⟩)] 24)) fun e w' => e = .returned (.bool (!h.quiet)) ∧ Below (w.alloc (.cells #[.pointer (some ⟨R, 0, none⟩)] 24)).heap.size (w.alloc (.cells #[.pointer (some ⟨R, 0, none⟩)] 24)) w') := by
    refine Lib.hid ?_
    clear hP hob m2 hbl m r2
    go_enter Try.func27, Try.ntmps27
    go_wp2_with fail
    refine HI.out.mono ?_
    rintro e w2 ⟨r, rfl, hr, hb⟩
    have HBB := Lib.hid hb
    have HR := Lib.hid hr
    clear hb hr
    by_cases hq : h.quiet = false
    · have t1 : decide ((0 : Int) ≤ r) = true := decide_eq_true (HR.out.2 hq)
      have HQ := Lib.hid hq
      clear hq
      go_wp2_with fail
      try go_ret
      exact ⟨by rw [HQ.out]; rfl, HBB.out⟩
    · have t1 : decide ((0 : Int) ≤ r) = false := decide_eq_false (fun h0 => hq (HR.out.1 h0))
      have HQ : Hid (h.quiet = true) := Lib.hid (by simpa using hq)
      clear hq
      go_wp2_with fail
      try go_ret
      exact ⟨by rw [HQ.out]; rfl, HBB.out⟩
  clear HI hob m2 hbl m h8
  go_enter Try.func15, Try.ntmps15
  go_wp2_with fail
  refine HCON.out.mono ?_
  rintro e w2 ⟨rfl, hb⟩
  have HBB := Lib.hid (HBL.out.trans (hb.mono HBL.out.size))
  clear hb HCON
  go_wp2_with fail
  try go_ret
  exact ⟨by simp, HBB.out⟩
end Go.Proofs.Ytaibpnblnigkgaa
