/-
  The contract of place.Starts: the places at which lines begin. Condition: the text has at most 1048576 bytes.
-/
import Derived.Test.YtiklmgjacdoeoaaRows
import Derived.WalkLawsBesides
import Derived.Deep.DeepFit
import Derived.Test.YtiklmgjacdoeoaaGx
namespace Go.Proofs.Ytiklmgjacdoeoaa
open Go.RowKit

/-- the places at which lines begin -/
def startsOf (l : List UInt8) : List Int := 0 :: (l.zipIdx.filterMap fun p => if p.1 = 10 then some ((p.2 : Int) + 1) else none)
theorem startsOf_snoc (l : List UInt8) (c : UInt8) : startsOf (l ++ [c]) = startsOf l ++ (if c = 10 then [(l.length : Int) + 1] else []) := by
  unfold startsOf
  rw [List.zipIdx_append, List.filterMap_append]
  by_cases h : c = 10 <;> simp [h]
theorem startsOf_len (l : List UInt8) : (startsOf l).length ≤ l.length + 1 := by
  unfold startsOf
  have := List.length_filterMap_le (fun p : UInt8 × Nat => if p.1 = 10 then some ((p.2 : Int) + 1) else none) l.zipIdx
  simp at this ⊢; omega

theorem Try.info_int : (Try.prog.info? 3).map (fun i => (i.zero, i.size, i.bytes)) = some (some (.int .i64 0), 1, 8) := by kernel_rfl

def StartsPost (s : ByteArray) (w : World) (e : Ending) (w' : World) : Prop :=
  ∃ g cap, e = .returned (.slice (some ⟨g, 0, none⟩) (startsOf s.data.toList).length cap) ∧ w.heap.size ≤ g ∧ g < w'.heap.size ∧ (startsOf s.data.toList).length ≤ cap ∧
    (∀ i, i < (startsOf s.data.toList).length → w'.cell? ⟨g, i, none⟩ = some (.int .i64 ((startsOf s.data.toList).getD i 0))) ∧ Below w.heap.size w w'

set_option maxHeartbeats 400000 in
theorem starts_any (s : ByteArray) (w : World) (hs : s.size ≤ 1048576) :
    Calls Try.prog 14 #[.string s] w (StartsPost s w) := by
  have hW : Below w.heap.size w (w.alloc (.cells #[.int .i64 0] 3)) := (Below.refl _ _).alloc (Nat.le_refl _) _
  have hO : (w.alloc (.cells #[.int .i64 0] 3)).ownsRow w.heap.size 3 1 (.slice (some ⟨w.heap.size, 0, none⟩) 1 1) 1 [.int .i64 0] :=
    ⟨rfl, .inr ⟨w.heap.size, 1, _, rfl, Nat.le_refl _, heap_alloc_new w _, Nat.le_refl _, by decide, rfl, rfl⟩⟩
  obtain ⟨cap, w1, hconv, -, hsz1, hg, hC⟩ := Gx.conv_bytes_run (P := Try.prog) (w.alloc (.cells #[.int .i64 0] 3)) 9 47 5 s Try.underlying9 Try.underlying47 Try.underlying5
  have HB : Below w.heap.size w w1 := hW.grown hg (by simp) (by simp)
  have HO : w1.ownsRow w.heap.size 3 1 (.slice (some ⟨w.heap.size, 0, none⟩) 1 1) 1 [.int .i64 0] := hO.kept hg (by simp [Value.ownBlock])
  have HC := Lib.hid hC; clear hC hg hO hW
  simp at hconv HC hsz1
  have HS1 := Lib.hid hsz1; clear hsz1
  go_enter Try.func14, Try.ntmps14
  go_wp2
  clear hconv
  go_loopw [3, 10] (fun v i wr => ∃ k : Nat, k ≤ s.size ∧ i = .int .i64 k ∧ wr.ownsRow w.heap.size 3 1 v (startsOf (s.data.toList.take k)).length ((startsOf (s.data.toList.take k)).map (Value.int .i64)) ∧ Below w.heap.size w wr ∧ Hid (∀ j (h : j < s.data.size), wr.cell? ⟨w.heap.size + 1, j, none⟩ = some (.int .u8 (s.data[j].toNat : Int))) ∧ v.ownBlock ≠ some (w.heap.size + 1) ∧ w.heap.size + 1 < wr.heap.size)
    (fun _ i _ => s.size - (intOf i).toNat)
  case atStart => exact ⟨0, Nat.zero_le _, rfl, HO, HB, HC, by simp [Value.ownBlock], HS1.out⟩
  case round =>
    obtain ⟨k, hk, rfl, hown, hb, hcell, hne, hsz⟩ := hrel
    have hlen := startsOf_len (s.data.toList.take k)
    have hlt1 : (s.data.toList.take k).length ≤ k := List.length_take_le _ _
    have hbs := hb.size
    by_cases hlt : k < s.size
    · have hc : wr.cell? ⟨w.heap.size + 1, k, none⟩ = some (.int .u8 (s.data[k].toNat : Int)) := hcell.out k hlt
      have hsn := startsOf_snoc (s.data.toList.take k) s.data[k]
      rw [show s.data.toList.take k ++ [s.data[k]] = s.data.toList.take (k+1) from by rw [List.take_succ_eq_append_getElem (by simpa using hlt)]; rfl, show (s.data.toList.take k).length = k from by simp; omega] at hsn
      have HSN := Lib.hid hsn
      clear hsn
      by_cases h10 : s.data[k].toNat = 10
      · have h10' : s.data[k] = 10 := UInt8.toNat_inj.1 h10
        have HT : startsOf (s.data.toList.take (k+1)) = startsOf (s.data.toList.take k) ++ [(k:Int)+1] := by rw [HSN.out, if_pos h10']
        have HT := Lib.hid HT
        rw [h10] at hc
        clear HSN h10 h10'
        go_wp2_with (first
          | (at_builtin; (refine Gx.wpList_push wr rfl _ _ 36 rfl w.heap.size 3 (.int .i64 0) 1 8 Try.underlying36 Try.info_int rfl (by decide) _ _ _ [.int .i64 ((k:Int)+1)] _ rfl rfl (by exact hown) rfl rfl ?c2 ?c3 ?c4 ?c5 ?_)))
        case c2 => intro u hu; simp at hu; subst hu; rfl
        case c3 => omega
        case c4 => omega
        case c5 => omega
        intro v' w' hown' hgrow hmv _
        have hcell' : Hid (∀ j (h : j < s.data.size), w'.cell? ⟨w.heap.size + 1, j, none⟩ = some (.int .u8 (s.data[j].toNat : Int))) := by
          intro j h
          exact hgrow.cell (a := ⟨w.heap.size + 1, j, none⟩) (hcell.out j h) (fun e => hne e.symm)
        have hb' : Below w.heap.size w w' := hb.grown hgrow hbs (fun k e => (hown.lt k e).1)
        have hne' := hmv.ne hsz hne
        have hsz' : w.heap.size + 1 < w'.heap.size := Nat.lt_of_lt_of_le hsz hgrow.size
        have HO : w'.ownsRow w.heap.size 3 1 v' (startsOf (s.data.toList.take (k+1))).length ((startsOf (s.data.toList.take (k+1))).map (Value.int .i64)) := by
          rw [HT.out, List.length_append, List.map_append]; exact hown'
        clear hgrow hown' hown hcell hc hb HT hmv
        go_wp2
        go_roundw
        case rel => exact ⟨k + 1, by omega, by go_num, HO, hb', hcell', hne', hsz'⟩
        case measure => simp [intOf]; omega
      · have h10' : ¬ s.data[k] = 10 := fun h => h10 (by rw [h]; rfl)
        have HT : startsOf (s.data.toList.take (k+1)) = startsOf (s.data.toList.take k) := by rw [HSN.out, if_neg h10']; simp
        have HT := Lib.hid HT
        clear HSN h10'
        have hb1 : ((s.data[k].toNat : Int) == 10) = false := by simp; omega
        go_wp2
        go_roundw
        case rel => exact ⟨k + 1, by omega, by go_num, by rw [HT.out]; exact hown, hb, hcell, hne, hsz⟩
        case measure => simp [intOf]; omega
    · have : k = s.size := by omega
      subst this
      go_wp2
      go_ret
      rw [List.take_of_length_le (by simp)] at hown
      obtain ⟨g, cap, rfl, h1, h2, h3, h4⟩ := Gx.own_cell hown (by simp [startsOf])
      refine ⟨g, cap, rfl, h1, h3, h2, fun i hi => h4 i _ ?_, hb⟩
      simp [List.getD, List.getElem?_eq_getElem hi]
end Go.Proofs.Ytiklmgjacdoeoaa
