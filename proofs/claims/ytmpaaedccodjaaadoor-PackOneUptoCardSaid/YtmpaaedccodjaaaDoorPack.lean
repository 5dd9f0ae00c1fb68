/-
  The contract of Pack; packs. Conditions: Go's two tables of utf8 lie in the world.
-/
import Derived.Test.YtmpaaedccodjaaaDoorPacked
import Derived.Test.YtmpaaedccodjaaaDoorCheck3
namespace Go.Proofs.YtmpaaedccodjaaaDoor
open Go.RowKit Go.Shelf Gx
set_option maxRecDepth 100000

def PackPost (v : V) (w : World) (e : Ending) (w' : World) : Prop :=
  ∃ ao m c, e = .returned (.tuple #[.slice ao m c, .int .i64 (chkV v)]) ∧ Below w.heap.size w w' ∧ (chkV v ≠ 0 → m = 0 ∧ ao = none) ∧ (chkV v = 0 → m = v.pk.length ∧ Out w' w.heap.size (.slice ao m c) v.pk)
set_option maxHeartbeats 4000000 in
theorem Pack_any (q : Loc) (w : World) (hT : Tabs w) (hv : VAt w (fun _ => True) q) : Calls Tryd.prog 7 #[q.val] w (PackPost q.v w) := by
  have hb1 : Below w.heap.size w (w.alloc (.cells #[.int .i64 q.v.k, .int .i64 q.v.n, .int .u64 q.v.f, .string q.v.s, .slice q.ad q.v.l.length q.cap, .slice q.bd q.v.e.length q.dap] 26)) := (Below.refl w.heap.size w).alloc (Nat.le_refl _) _
  have hc := CellsAt.box (q := q) (heap_alloc_new w (.cells #[.int .i64 q.v.k, .int .i64 q.v.n, .int .u64 q.v.f, .string q.v.s, .slice q.ad q.v.l.length q.cap, .slice q.bd q.v.e.length q.dap] 26))
  have hs1 : w.heap.size < (w.alloc (.cells #[.int .i64 q.v.k, .int .i64 q.v.n, .int .u64 q.v.f, .string q.v.s, .slice q.ad q.v.l.length q.cap, .slice q.bd q.v.e.length q.dap] 26)).heap.size := by simp
  unfold Loc.val
  have HT := Lib.hid hT
  have HV := Lib.hid hv
  clear hT hv
  obtain ⟨r, hr⟩ : ∃ r, chkV q.v = r := ⟨_, rfl⟩
  have HR := Lib.hid hr
  clear hr
  go_enter Tryd.func7, Tryd.ntmps7
  go_upto_region 1 with fail
  generalize hw1 : World.alloc w _ = w1 at hb1 hc hs1 ⊢
  clear hw1
  obtain ⟨c0, c1, c2, c3, c4, c5⟩ := hc
  have HC : Hid (CellsAt w1 w.heap.size 0 q) := Lib.hid ⟨c0, c1, c2, c3, c4, c5⟩
  have HB1 := Lib.hid hb1
  have hck := Check_any q w1 (HT.out.keep hb1) (HV.out.keep hb1)
  simp only [Loc.val, HR.out] at hck
  have HCK := Lib.hid hck
  clear hck hb1
  go_wp2_with fail
  (with_reducible refine HCK.out.mono ?_)
  rintro e w2 ⟨rfl, hb2⟩
  have hb12 := HB1.out.trans (hb2.mono (by omega))
  have HB12 := Lib.hid hb12
  obtain ⟨d0, d1, d2, d3, d4, d5⟩ := HC.out.through (hb2.block _ hs1)
  clear hb2 hb12 c0 c1 c2 c3 c4 c5
  by_cases h0 : r = 0
  · subst h0
    have hgl := chkV_good HR.out
    have hpk := packed_any w.heap.size none 0 [] q w2 (Out.nil w2 w.heap.size) HB12.out.size (HV.out.through HB12.out.size (fun b _ hl => HB12.out.block b hl) (fun b _ hl => hl)) hgl.1 (by simp; omega)
    simp only [Loc.val, List.length_nil] at hpk
    have HPK := Lib.hid hpk
    clear hpk
    rw [show ((0 : Nat) : Int) = 0 from rfl]
    go_wp2_with fail
    (with_reducible refine HPK.out.mono ?_)
    rintro e w3 ⟨ao, c, rfl, ho, hg, hm⟩
    rw [show ([] : List Int).length + q.v.pk.length = q.v.pk.length by simp, List.nil_append] at ho
    rw [show ([] : List Int).length + q.v.pk.length = q.v.pk.length by simp]
    have HO := Lib.hid ho
    have HG := Lib.hid (HB12.out.trans (Gx.grown_below (B := w.heap.size) hg HB12.out.size (fun k e => by simp [Value.ownBlock] at e)))
    clear ho hg hm
    go_wp2_with fail
    try go_ret2
    exact ⟨ao, _, c, by rw [HR.out]; rfl, HG.out, fun h => absurd HR.out h, fun _ => ⟨rfl, HO.out⟩⟩
  · have t1 : ((r : Int) != 0) = true := by simp; omega
    have HN : Hid (chkV q.v ≠ 0) := Lib.hid (by rw [HR.out]; exact h0)
    clear h0
    go_wp2_with fail
    try go_ret2
    exact ⟨none, 0, 0, by rw [HR.out]; rfl, HB12.out, fun _ => ⟨rfl, rfl⟩, fun h => absurd h HN.out⟩

theorem keyE_nil : keyE none [] = 0 := rfl
theorem chk_zero : chkV V.zero = 0 := by
  have h1 : ownV V.zero = 0 := by
    have hk : kindBad V.zero.k V.zero.n V.zero.f V.zero.s V.zero.l.length V.zero.e.length = false := by
      show kindBad 0 0 0 ⟨#[]⟩ 0 0 = false
      simp [kindBad, nan0, empty_bad]
    have ht : okText V.zero.s.data.toList := okText_nil
    unfold ownV ownE
    rw [if_neg (by rw [hk]; decide), if_neg (by show ¬ (4000 < 0 ∨ 200 < 0 ∨ 200 < 0); omega), if_pos ht]
  show (chk (19 + 1) V.zero 0).1 = 0
  simp only [chk]
  rw [if_neg (by decide), if_neg (fun h => h h1), if_neg (fun h => h keyE_nil)]
  rfl
theorem pk_zero : V.zero.pk = [1] := by rw [pk_eq]; rfl
def TruePost0 (w : World) (e : Ending) (w' : World) : Prop := e = .returned (.bool true) ∧ Below w.heap.size w w'
set_option maxHeartbeats 2000000 in
theorem packs_any (w : World) (hT : Tabs w) : Calls Tryd.prog 6 #[] w (TruePost0 w) := by
  have hp := Pack_any ⟨V.zero, none, 0, none, 0⟩ w hT (VAt.zero w _ none none 0 0)
  simp only [Loc.val, V.zero, V.k, V.n, V.f, V.s, V.l, V.e, List.length_nil] at hp
  have HP := Lib.hid hp
  clear hp hT
  go_enter Tryd.func6, Tryd.ntmps6
  go_wp2_with fail
  (with_reducible refine HP.out.mono ?_)
  rintro e w2 ⟨ao, m, c, rfl, hb, -, h2⟩
  have hz : chkV (V.mk 0 0 0 ⟨#[]⟩ [] []) = 0 := chk_zero
  obtain ⟨rfl, -⟩ := h2 hz
  rw [hz]
  have hl : (V.mk 0 0 0 ⟨#[]⟩ [] []).pk.length = 1 := by have := pk_zero; rw [show V.zero = V.mk 0 0 0 ⟨#[]⟩ [] [] from rfl] at this; rw [this]; rfl
  rw [hl]
  have HB := Lib.hid hb
  clear h2 hz hl hb
  go_wp2_with fail
  try go_ret
  exact ⟨rfl, HB.out⟩
end Go.Proofs.YtmpaaedccodjaaaDoor
