/-
  The contract of hub.New. No conditions.
-/
import Derived.Test.YtaibpnblnigkgaaHubActs
namespace Go.Proofs.Ytaibpnblnigkgaa
open Go.RowKit Gx
set_option maxRecDepth 100000

def Cl.new (text : ByteArray) : Cl := ⟨text, 0, Mb.none, Mb.none⟩
def Hb.new (text : ByteArray) (n : Nat) : Hb := ⟨text, [], .slice none 0 0, List.replicate n (Cl.new text)⟩
def clCells (l : List Cl) : List Value := l.flatMap Cl.cells
theorem clCells_get : ∀ (l : List Cl) (i : Nat) (c : Cl), l[i]? = some c → ∀ k v, c.cells[k]? = some v → (clCells l)[i * 6 + k]? = some v
  | [], i, c, h => by simp at h
  | q :: l, 0, c, h => fun k v hk => by
    obtain rfl : q = c := by simpa using h
    have hl := (List.getElem?_eq_some_iff.1 hk).1
    show (q.cells ++ clCells l)[0 * 6 + k]? = some v
    rw [Nat.zero_mul, Nat.zero_add, List.getElem?_append_left hl]
    exact hk
  | q :: l, i + 1, c, h => fun k v hk => by
    show (q.cells ++ clCells l)[(i + 1) * 6 + k]? = some v
    have h6 : q.cells.length = 6 := rfl
    rw [List.getElem?_append_right (by rw [h6]; omega), h6, show (i + 1) * 6 + k - 6 = i * 6 + k by omega]
    exact clCells_get l i c (by simpa using h) k v hk
theorem Row.of_own {w : World} {base C n cap : Nat} {cls : List Cl} (h : w.ownsRow base 69 6 (.slice (some ⟨C, 0, none⟩) n cap) n (clCells cls)) : Row w C cls := by
  have hc := h.cells (g := C) rfl
  rcases h.2 with ⟨h1, -⟩ | ⟨g, cap', cur, h1, hb, hg, -⟩
  · cases h1
  · obtain ⟨rfl, -⟩ : C = g ∧ cap = cap' := by simpa using h1
    refine ⟨cur, _, hg, fun i c hi k v hk => ?_⟩
    have h2 := hc _ v (clCells_get cls i c hi k v hk)
    rw [Addr.add_lit, Nat.zero_add] at h2
    simpa [World.cell?, hg] using h2
def NewP (text : ByteArray) (n : Nat) (w : World) (e : Ending) (w' : World) : Prop :=
  ∃ R C cap, e = .returned (.tuple #[.pointer (some ⟨R, 0, none⟩), .int .i64 0]) ∧ HM w.heap.size R C cap (Hb.new text n) w' ∧ Below w.heap.size w w'
theorem Try.info_client : (Try.prog.info? 69).map (fun i => (i.zero, i.size, i.bytes)) = some (some (.agg #[.string ⟨#[]⟩, .int .i64 0, .bool false, .slice none 0 0, .bool false, .slice none 0 0]), 6, 88) := by kernel_rfl
theorem New_no (text : ByteArray) (n : Int) (w : World) (hn : n < 1 ∨ 8 < n) : Calls Try.prog 19 #[.string text, .int .i64 n] w fun e w' => e = .returned (.tuple #[.pointer none, .int .i64 1]) ∧ w' = w := by
  by_cases h1 : n < 1
  · have t1 : decide (n < 1) = true := decide_eq_true h1
    clear hn h1
    go_enter Try.func19, Try.ntmps19
    go_wp2
    go_ret2
    exact ⟨rfl, rfl⟩
  · have t1 : decide (n < 1) = false := decide_eq_false h1
    have t2 : decide (8 < n) = true := decide_eq_true (by omega)
    clear hn h1
    go_enter Try.func19, Try.ntmps19
    go_wp2
    go_ret2
    exact ⟨rfl, rfl⟩
theorem New_large (text : ByteArray) (n : Nat) (w : World) (h1 : 1 ≤ n) (h8 : n ≤ 8) (hl : 20000 < text.size) : Calls Try.prog 19 #[.string text, .int .i64 n] w fun e w' => e = .returned (.tuple #[.pointer none, .int .i64 2]) ∧ w' = w := by
  have t1 : decide ((n : Int) < 1) = false := decide_eq_false (by omega)
  have t2 : decide (8 < (n : Int)) = false := decide_eq_false (by omega)
  have t3 : decide ((20000 : Int) < (text.size : Int)) = true := decide_eq_true (by omega)
  have t4 : decide (20000 < text.size) = true := decide_eq_true hl
  clear h1 h8 hl
  go_enter Try.func19, Try.ntmps19
  go_wp2
  go_ret2
  exact ⟨rfl, rfl⟩
set_option maxHeartbeats 4000000 in
theorem New_ok (text : ByteArray) (n : Nat) (w : World) (h1 : 1 ≤ n) (h8 : n ≤ 8) (hl : text.size ≤ 20000) : Calls Try.prog 19 #[.string text, .int .i64 n] w (NewP text n w) := by
  have t1 : decide ((n : Int) < 1) = false := decide_eq_false (by omega)
  have t2 : decide (8 < (n : Int)) = false := decide_eq_false (by omega)
  have t3 : decide ((20000 : Int) < (text.size : Int)) = false := decide_eq_false (by omega)
  have t4 : decide (20000 < text.size) = false := decide_eq_false (by omega)
  obtain ⟨R, hR⟩ : ∃ R, w.heap.size = R := ⟨_, rfl⟩
  have hob := heap_alloc_new w (.cells #[.string text, .slice none 0 0, .slice none 0 0] 49)
  rw [hR] at hob
  have HOB := Lib.hid hob
  have hbl := (Below.refl w.heap.size w).alloc (Nat.le_refl _) (.cells #[.string text, .slice none 0 0, .slice none 0 0] 49)
  have HBL := Lib.hid hbl
  have hsz : (w.alloc (.cells #[.string text, .slice none 0 0, .slice none 0 0] 49)).heap.size = R + 1 := by rw [World.size_alloc, hR]
  have HSZ := Lib.hid hsz
  have HRR := Lib.hid hR
  clear hob hbl hsz
  go_enter Try.func19, Try.ntmps19
  go_upto_region 6 with fail
  try rw [hR]
  rw [hR] at HBL
  generalize w.alloc (.cells #[.string text, .slice none 0 0, .slice none 0 0] 49) = w1 at HOB HBL HSZ ⊢
  clear hR t1 t2 t3 t4
  go_wp2_with fail
  go_loopw [22] (fun v22 wr => ∃ (j : Nat) (vo : Option Addr) (vc : Nat), j ≤ n ∧ v22 = .int .i64 j ∧ Hid (wr.heap[R]? = some (.cells #[.string text, .slice none 0 0, .slice vo j vc] 49) ∧ wr.ownsRow (R + 1) 69 6 (.slice vo j vc) j (clCells (List.replicate j (Cl.new text))) ∧ Below R w wr)) (fun v22 _ => n - (intOf v22).toNat)
  case atStart => exact ⟨0, none, 0, Nat.zero_le _, rfl, Lib.hid ⟨HOB.out, World.ownsRow_nil _ _ _ _, HBL.out⟩⟩
  case round =>
    obtain ⟨j, vo, vc, hj, rfl, HR⟩ := hrel
    obtain ⟨ho, hown, hb⟩ := HR.out
    have c2 : wr.cell? ⟨R, 2, none⟩ = some (.slice vo j vc) := by simp [World.cell?, ho]
    have hRl := (Array.getElem?_eq_some_iff.1 ho).1
    have HOWN := Lib.hid hown
    have HO := Lib.hid ho
    have HB := Lib.hid hb
    have hne : (Value.slice vo j vc).ownBlock ≠ some R := fun e => by have := (hown.lt R e).1; omega
    have HNE := Lib.hid hne
    clear ho hown hb hne HR
    by_cases hlt : j < n
    · have i2 : (j : Int) < (n : Int) := by omega
      go_upto_region 9 with (at_builtin; refine Gx.wpList_push wr rfl _ _ 47 rfl (R + 1) 69 (.agg #[.string ⟨#[]⟩, .int .i64 0, .bool false, .slice none 0 0, .bool false, .slice none 0 0]) 6 88 Try.underlying47 Try.info_client rfl (by decide) (.slice vo j vc) j (clCells (List.replicate j (Cl.new text))) [.string text, .int .i64 0, .bool false, .slice none 0 0, .bool false, .slice none 0 0] _ rfl rfl (by exact HOWN.out) rfl rfl (by intro u hu; simp only [List.mem_cons, List.not_mem_nil, or_false] at hu; rcases hu with rfl | rfl | rfl | rfl | rfl | rfl <;> rfl) (by omega) (by omega) (by omega) ?_; intro v' w4 hown4 hg4 hm4 _; have hR1 := (hg4.block _ hRl (fun e => HNE.out e.symm)).trans HO.out; have k1 : w4.cell? ⟨R, 2, none⟩ = some (.slice vo j vc) := (by simp [World.cell?, hR1]); have k2 : w4.frozen? ⟨R, 2, none⟩ = false := (by simp [World.frozen?, hR1]); obtain ⟨vo4, vc4, rfl⟩ := own_form hown4)
      have hm9 : (w4.setCell ⟨R, 2, none⟩ (.slice vo4 (j + 1) vc4)).heap[R]? = some (.cells #[.string text, .slice none 0 0, .slice vo4 (j + 1) vc4] 49) := by simp [World.setCell, Array.getElem?_modify, hR1]
      have hg5 := grown_set2 w4 R 2 (.slice vo4 (j + 1) vc4)
      have hne4 : (Value.slice vo4 (j + 1) vc4).ownBlock ≠ some R := fun e => by have := (hown4.lt R e).1; omega
      have hown5 := hown4.kept hg5 (.inr hne4)
      have hb5 : Below R w (w4.setCell ⟨R, 2, none⟩ (.slice vo4 (j + 1) vc4)) := (HB.out.grown hg4 (by omega) (fun k e => by have := (HOWN.out.lt k e).1; omega)).grown hg5 (by have := hg4.size; omega) (fun k e => by have := Option.some.inj e; omega)
      rw [show clCells (List.replicate j (Cl.new text)) ++ [.string text, .int .i64 0, .bool false, .slice none 0 0, .bool false, .slice none 0 0] = clCells (List.replicate (j + 1) (Cl.new text)) by rw [List.replicate_succ']; unfold clCells; rw [List.flatMap_append]; rfl] at hown5
      have HREL := Lib.hid (And.intro hm9 (And.intro hown5 hb5))
      clear hm9 hg5 hne4 hown5 hb5 hown4 hg4 hm4 hR1 k1 k2 c2
      go_wp2_with fail
      exact ⟨⟨j + 1, vo4, vc4, by omega, by go_num, HREL⟩, by simp [intOf]; omega⟩
    · obtain rfl : j = n := by omega
      go_wp2_with fail
      try go_ret2
      have hown := HOWN.out
      rcases HOWN.out.2 with ⟨h0, h00⟩ | ⟨C, cap, cur, hv, hbC, hgC, hnc, -⟩
      · omega
      · obtain ⟨rfl, -, rfl⟩ : vo = some ⟨C, 0, none⟩ ∧ j = j ∧ vc = cap := by simpa using hv
        refine ⟨R, C, vc, rfl, ⟨?_, Row.of_own hown, World.ownsRow_nil _ _ _ _, fun p hp => ?_, by omega, (by intro e; cases e), (by intro e; cases e), by rw [HRR.out]; exact Nat.le_refl _, by rw [HRR.out]; omega, by simpa [Hb.new] using hnc⟩, by rw [HRR.out]; exact HB.out⟩
        · rw [HO.out]
          simp [Hb.new]
        · have hnil : ∀ (W : World), Pt.At W R C (Hb.new text j).lv Mb.none.pt := fun W => ⟨PR.nil _ _ _ (fun _ => rfl) (show (0 : Nat) ≤ 9223372036854775807 from Nat.zero_le _), fun a ha => by cases ha⟩
          rcases hp with ⟨e, he, -⟩ | ⟨c, hc, hp⟩
          · exact absurd he (by simp [Hb.new])
          · obtain rfl : c = Cl.new text := List.eq_of_mem_replicate hc
            rcases hp with rfl | rfl
            · exact hnil _
            · exact hnil _
end Go.Proofs.Ytaibpnblnigkgaa
