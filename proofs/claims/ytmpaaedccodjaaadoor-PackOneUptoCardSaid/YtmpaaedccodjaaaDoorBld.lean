/-
  The shelf's contracts of (*strings.Builder).WriteByte and String, laid at this dump. No conditions.
-/
import Derived.Shelf.Strings.BuilderK
import Derived.Lib.OthersKept
import Derived.Test.YtmpaaedccodjaaaDoorProg
namespace Go.Proofs
open Go.Shelf Go.RowKit
def YtmpaaedccodjaaaDoor.lays167_ren : Go.Shelf.Ren := ⟨fun | 167 => 44 | 240 => 47 | 276 => 49 | n => n, fun | 0 => 0 | 4 => 4 | 5 => 5 | 9 => 9 | 20 => 20 | 37 => 28 | 70 => 76 | 72 => 78 | 75 => 80 | 80 => 73 | 164 => 83 | n => n, fun | n => n⟩
theorem YtmpaaedccodjaaaDoor.lays167 : Go.Proofs.Lays.n167 Tryd.prog YtmpaaedccodjaaaDoor.lays167_ren := {
  mixed := by kernel_rfl
  f167 := Tryd.func44.trans (congrArg some (by kernel_rfl))
  f240 := Tryd.func47.trans (congrArg some (by kernel_rfl))
  f276 := Tryd.func49.trans (congrArg some (by kernel_rfl))
  t0 := Tryd.underlying0
  a0 := Tryd.isAgg0
  z0 := Tryd.sizeOf0
  v0 := Tryd.zeroValue0
  t4 := Tryd.underlying4
  a4 := Tryd.isAgg4
  z4 := Tryd.sizeOf4
  v4 := Tryd.zeroValue4
  t5 := Tryd.underlying5
  a5 := Tryd.isAgg5
  z5 := Tryd.sizeOf5
  v5 := Tryd.zeroValue5
  t9 := Tryd.underlying9
  a9 := Tryd.isAgg9
  z9 := Tryd.sizeOf9
  v9 := Tryd.zeroValue9
  t20 := Tryd.underlying20
  a20 := Tryd.isAgg20
  z20 := Tryd.sizeOf20
  v20 := Tryd.zeroValue20
  t37 := Tryd.underlying28
  a37 := Tryd.isAgg28
  z37 := Tryd.sizeOf28
  v37 := Tryd.zeroValue28
  t70 := Tryd.underlying76
  a70 := Tryd.isAgg76
  z70 := Tryd.sizeOf76
  v70 := Tryd.zeroValue76
  t72 := Tryd.underlying78
  a72 := Tryd.isAgg78
  z72 := Tryd.sizeOf78
  v72 := Tryd.zeroValue78
  t75 := Tryd.underlying80
  a75 := Tryd.isAgg80
  z75 := Tryd.sizeOf80
  v75 := Tryd.zeroValue80
  t164 := Tryd.underlying83
  a164 := Tryd.isAgg83
  z164 := Tryd.sizeOf83
  v164 := Tryd.zeroValue83 }
theorem YtmpaaedccodjaaaDoor.Builder_Extra_167 : Builder.Extra Tryd.prog YtmpaaedccodjaaaDoor.lays167_ren := {
  sizeBuilder := by kernel_rfl
  liesBuilder := by kernel_rfl
  t5 := Tryd.underlying5
  a5 := Tryd.isAgg5
  z5 := Tryd.sizeOf5
  v5 := Tryd.zeroValue5
  infoByte := by kernel_rfl
  cellsByte := by kernel_rfl
  sizeByte := by kernel_rfl
  neB5 := by decide }
def YtmpaaedccodjaaaDoor.lays169_ren : Go.Shelf.Ren := ⟨fun | 169 => 45 | n => n, fun | 0 => 0 | 3 => 3 | 5 => 5 | 9 => 9 | 37 => 28 | 70 => 76 | 72 => 78 | 127 => 82 | n => n, fun | n => n⟩
theorem YtmpaaedccodjaaaDoor.lays169 : Go.Proofs.Lays.n169 Tryd.prog YtmpaaedccodjaaaDoor.lays169_ren := {
  mixed := by kernel_rfl
  f169 := Tryd.func45.trans (congrArg some (by kernel_rfl))
  t0 := Tryd.underlying0
  a0 := Tryd.isAgg0
  z0 := Tryd.sizeOf0
  v0 := Tryd.zeroValue0
  t3 := Tryd.underlying3
  a3 := Tryd.isAgg3
  z3 := Tryd.sizeOf3
  v3 := Tryd.zeroValue3
  t9 := Tryd.underlying9
  a9 := Tryd.isAgg9
  z9 := Tryd.sizeOf9
  v9 := Tryd.zeroValue9
  t37 := Tryd.underlying28
  a37 := Tryd.isAgg28
  z37 := Tryd.sizeOf28
  v37 := Tryd.zeroValue28
  t70 := Tryd.underlying76
  a70 := Tryd.isAgg76
  z70 := Tryd.sizeOf76
  v70 := Tryd.zeroValue76
  t72 := Tryd.underlying78
  a72 := Tryd.isAgg78
  z72 := Tryd.sizeOf78
  v72 := Tryd.zeroValue78
  t127 := Tryd.underlying82
  a127 := Tryd.isAgg82
  z127 := Tryd.sizeOf82
  v127 := Tryd.zeroValue82 }
theorem YtmpaaedccodjaaaDoor.Builder_Extra_169 : Builder.Extra Tryd.prog YtmpaaedccodjaaaDoor.lays169_ren := {
  sizeBuilder := by kernel_rfl
  liesBuilder := by kernel_rfl
  t5 := Tryd.underlying5
  a5 := Tryd.isAgg5
  z5 := Tryd.sizeOf5
  v5 := Tryd.zeroValue5
  infoByte := by kernel_rfl
  cellsByte := by kernel_rfl
  sizeByte := by kernel_rfl
  neB5 := by decide }

/-- a builder of these bytes -/
def YtmpaaedccodjaaaDoor.Bld (b : Nat) (l : List UInt8) (w : World) : Prop := Lib.IsBuilderF 78 5 b b (Lib.byteCells l) w
/-- what a write makes -/
def YtmpaaedccodjaaaDoor.WrotePost (v : Value) (b : Nat) (l : List UInt8) (w : World) (e : Ending) (w' : World) : Prop := e = .returned v ∧ YtmpaaedccodjaaaDoor.Bld b l w' ∧ Below b w w' ∧ Lib.OthersKept 5 (some b) w w'
theorem YtmpaaedccodjaaaDoor.writeByte (b : Nat) (l : List UInt8) (c : UInt8) (w : World) (h : YtmpaaedccodjaaaDoor.Bld b l w) (hlen : l.length + 1 ≤ 140737488355328) (hBw : b ≤ w.heap.size) :
    Calls Tryd.prog 44 #[.pointer (some ⟨b, 0, none⟩), .int .u8 (c.toNat : Nat)] w (YtmpaaedccodjaaaDoor.WrotePost .nilIface b (l ++ [c]) w) := by
  refine (Any.Builder_WriteByte_k YtmpaaedccodjaaaDoor.lays167 YtmpaaedccodjaaaDoor.Builder_Extra_167 b b _ (c.toNat : Int) w h (by rw [Lib.byteCells_length]; exact hlen) hBw).mono ?_
  rintro e w' ⟨rfl, h1, h2, h3⟩
  refine ⟨rfl, ?_, h2, h3⟩
  unfold YtmpaaedccodjaaaDoor.Bld
  rw [Lib.byteCells_append]
  exact Or.inr h1
/-- what was written -/
theorem YtmpaaedccodjaaaDoor.built (b : Nat) (l : List UInt8) (w : World) (h : YtmpaaedccodjaaaDoor.Bld b l w) (hBw : b ≤ w.heap.size) :
    Calls Tryd.prog 45 #[.pointer (some ⟨b, 0, none⟩)] w fun e w' => e = .returned (.string ⟨l.toArray⟩) ∧ Below b w w' :=
  (Any.Builder_String_any_f YtmpaaedccodjaaaDoor.lays169 YtmpaaedccodjaaaDoor.Builder_Extra_169 b b l w h hBw).mono fun _ _ h => ⟨h.1, h.2.2⟩
/-- a builder where another block was written that is older -/
theorem YtmpaaedccodjaaaDoor.Bld.other {b R : Nat} {l : List UInt8} {w w' : World} (h : YtmpaaedccodjaaaDoor.Bld b l w) (hg : w.grownBy w' (some R)) (hR : R < b) : YtmpaaedccodjaaaDoor.Bld b l w' := by
  have key : ∀ {p : Value}, Lib.BuilderAtF 78 5 b b p (Lib.byteCells l) w → Lib.BuilderAtF 78 5 b b p (Lib.byteCells l) w' := by
    rintro p ⟨hB, v, hb, hown, hne⟩
    have hk : ∀ k, b ≤ k → k < w.heap.size → w'.heap[k]? = w.heap[k]? := fun k h1 h2 => hg.block k h2 (fun e => by have : k = R := Option.some.inj e; omega)
    refine ⟨hB, v, (hk b (Nat.le_refl _) (Array.getElem?_eq_some_iff.1 hb).1).trans hb, ⟨hown.1, ?_⟩, hne⟩
    rcases hown.2 with hn | ⟨g, cap, cur, fz, hv, hbg, hgg, rest⟩
    · exact .inl hn
    · exact .inr ⟨g, cap, cur, fz, hv, hbg, (hk g hbg (Array.getElem?_eq_some_iff.1 hgg).1).trans hgg, rest⟩
  exact h.elim (fun x => .inl (key x)) (fun x => .inr (key x))
theorem YtmpaaedccodjaaaDoor.fresh (w : World) : YtmpaaedccodjaaaDoor.Bld w.heap.size [] (w.alloc (.cells #[.pointer none, .slice none 0 0] 78)) := Lib.IsBuilderF.of (Lib.fresh_isBuilder 78 5 w)
end Go.Proofs
