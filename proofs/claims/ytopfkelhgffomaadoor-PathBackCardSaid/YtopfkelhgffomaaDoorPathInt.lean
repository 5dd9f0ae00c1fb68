/-
  The contract of strconv.ParseInt at base 10 and 64 bits. Conditions: the variables of strconv's errors lie in the world; the text has at most 2^47 bytes.
-/
import Derived.Test.YtopfkelhgffomaaDoorPathAny
import Derived.Test.YtopfkelhgffomaaDoorPathTxt
namespace Go.Proofs.YtopfkelhgffomaaDoor
open Go.RowKit Gx
set_option maxRecDepth 100000

def RVar (w : World) : Prop := ∃ te pe, w.cell? ⟨2, 0, none⟩ = some (.iface te pe)
theorem RVar.keep {w w' : World} (h : RVar w) (hb : Below w.heap.size w w') : RVar w' := by
  obtain ⟨te, pe, hc⟩ := h
  exact ⟨te, pe, (World.cell?_of_block (hb.block _ (World.block_lt_of_cell? w _ hc))).trans hc⟩
structure PTabs (w : World) : Prop where
  e : ETabs w
  r : RVar w
theorem PTabs.keep {w w' : World} (h : PTabs w) (hb : Below w.heap.size w w') : PTabs w' := ⟨h.e.keep hb, h.r.keep hb⟩

def IntP (l : List UInt8) (w : World) (e : Ending) (w' : World) : Prop :=
  ((∃ v, Lib.parseIntB 64 l = .ok v ∧ e = .returned (.tuple #[.int .i64 v, .nilIface])) ∨
   ((∀ v, Lib.parseIntB 64 l ≠ .ok v) ∧ ∃ n N, e = .returned (.tuple #[.int .i64 n, .iface 80 (.pointer (some ⟨N, 0, none⟩))]))) ∧ Below w.heap.size w w'
theorem pint_any (s : ByteArray) (w : World) (hT : PTabs w) (hs : s.size ≤ 140737488355328) : Calls Tryd.prog 18 #[.string s, .int .i64 10, .int .i64 64] w (IntP s.data.toList w) := by
  cases h : Lib.parseIntB 64 s.data.toList with
  | ok v =>
    refine (Tryd.strconv_ParseInt_10_at64_ok s (by omega) v h w).mono ?_
    rintro e w' ⟨rfl, hw⟩
    refine ⟨.inl ⟨v, h, rfl⟩, ?_⟩
    rcases hw with rfl | ⟨t, rfl⟩
    · exact Below.refl _ _
    · exact Lib.bytesWorld_below _ _ _
  | «syntax» =>
    obtain ⟨te, pe, hc⟩ := hT.e.e
    refine (Tryd.strconv_ParseInt_10_at64_syntax s (by omega) h _ w hc (.inr ⟨te, pe, rfl⟩)).mono ?_
    rintro e w' ⟨N, rfl, -, -, hb⟩
    exact ⟨.inr ⟨(fun v h2 => by rw [h] at h2; cases h2), _, N, rfl⟩, hb⟩
  | range =>
    obtain ⟨te, pe, hc⟩ := hT.r
    refine (Tryd.strconv_ParseInt_10_at64_range s (by omega) h _ w hc (.inr ⟨te, pe, rfl⟩)).mono ?_
    rintro e w' ⟨N, rfl, -, -, hb⟩
    exact ⟨.inr ⟨(fun v h2 => by rw [h] at h2; cases h2), _, N, rfl⟩, hb⟩
end Go.Proofs.YtopfkelhgffomaaDoor
