/-
  The shelf's contracts of (*strings.Builder).WriteByte, WriteRune, WriteString and String, laid at this dump. No conditions.
-/
import Derived.Shelf.Strings.BuilderK
import Derived.Shelf.Strings.BuilderRune
import Derived.Test.YtopfkelhgffomaaDoorProg
namespace Go.Proofs
open Go.Shelf Go.RowKit
def YtopfkelhgffomaaDoor.lays166_ren : Go.Shelf.Ren := ⟨fun | 166 => 39 | 240 => 51 | 276 => 67 | n => n, fun | 0 => 0 | 3 => 3 | 4 => 4 | 5 => 5 | 9 => 9 | 20 => 20 | 37 => 57 | 70 => 56 | 72 => 59 | 75 => 45 | 80 => 60 | 164 => 100 | n => n, fun | n => n⟩
theorem YtopfkelhgffomaaDoor.lays166 : Go.Proofs.Lays.n166 Tryd.prog YtopfkelhgffomaaDoor.lays166_ren := {
  mixed := by kernel_rfl
  f166 := Tryd.func39.trans (congrArg some (by kernel_rfl))
  f240 := Tryd.func51.trans (congrArg some (by kernel_rfl))
  f276 := Tryd.func67.trans (congrArg some (by kernel_rfl))
  t0 := Tryd.underlying0
  a0 := Tryd.isAgg0
  z0 := Tryd.sizeOf0
  v0 := Tryd.zeroValue0
  t3 := Tryd.underlying3
  a3 := Tryd.isAgg3
  z3 := Tryd.sizeOf3
  v3 := Tryd.zeroValue3
  t4 := Tryd.underlying4
  a4 := Tryd.isAgg4
  z4 := Tryd.sizeOf4
  v4 := Tryd.zeroValue4
  t9 := Tryd.underlying9
  a9 := Tryd.isAgg9
  z9 := Tryd.sizeOf9
  v9 := Tryd.zeroValue9
  t20 := Tryd.underlying20
  a20 := Tryd.isAgg20
  z20 := Tryd.sizeOf20
  v20 := Tryd.zeroValue20
  t37 := Tryd.underlying57
  a37 := Tryd.isAgg57
  z37 := Tryd.sizeOf57
  v37 := Tryd.zeroValue57
  t70 := Tryd.underlying56
  a70 := Tryd.isAgg56
  z70 := Tryd.sizeOf56
  v70 := Tryd.zeroValue56
  t72 := Tryd.underlying59
  a72 := Tryd.isAgg59
  z72 := Tryd.sizeOf59
  v72 := Tryd.zeroValue59
  t75 := Tryd.underlying45
  a75 := Tryd.isAgg45
  z75 := Tryd.sizeOf45
  v75 := Tryd.zeroValue45
  t164 := Tryd.underlying100
  a164 := Tryd.isAgg100
  z164 := Tryd.sizeOf100
  v164 := Tryd.zeroValue100 }
theorem YtopfkelhgffomaaDoor.Builder_Extra_166 : Builder.Extra Tryd.prog YtopfkelhgffomaaDoor.lays166_ren := {
  sizeBuilder := by kernel_rfl
  liesBuilder := by kernel_rfl
  t5 := Tryd.underlying5
  a5 := Tryd.isAgg5
  z5 := Tryd.sizeOf5
  v5 := Tryd.zeroValue5
  infoByte := by kernel_rfl
  cellsByte := by kernel_rfl
  sizeByte := by kernel_rfl
  neB5 := by decide }
def YtopfkelhgffomaaDoor.lays167_ren : Go.Shelf.Ren := ⟨fun | 167 => 38 | 240 => 51 | 276 => 67 | n => n, fun | 0 => 0 | 4 => 4 | 5 => 5 | 9 => 9 | 20 => 20 | 37 => 57 | 70 => 56 | 72 => 59 | 75 => 45 | 80 => 60 | 164 => 100 | n => n, fun | n => n⟩
theorem YtopfkelhgffomaaDoor.lays167 : Go.Proofs.Lays.n167 Tryd.prog YtopfkelhgffomaaDoor.lays167_ren := {
  mixed := by kernel_rfl
  f167 := Tryd.func38.trans (congrArg some (by kernel_rfl))
  f240 := Tryd.func51.trans (congrArg some (by kernel_rfl))
  f276 := Tryd.func67.trans (congrArg some (by kernel_rfl))
  t0 := Tryd.underlying0
  a0 := Tryd.isAgg0
  z0 := Tryd.sizeOf0
  v0 := Tryd.zeroValue0
  t4 := Tryd.underlying4
  a4 := Tryd.isAgg4
  z4 := Tryd.sizeOf4
  v4 := Tryd.zeroValue4
  t5 := Tryd.underlying5
  a5 := Tryd.isAgg5
  z5 := Tryd.sizeOf5
  v5 := Tryd.zeroValue5
  t9 := Tryd.underlying9
  a9 := Tryd.isAgg9
  z9 := Tryd.sizeOf9
  v9 := Tryd.zeroValue9
  t20 := Tryd.underlying20
  a20 := Tryd.isAgg20
  z20 := Tryd.sizeOf20
  v20 := Tryd.zeroValue20
  t37 := Tryd.underlying57
  a37 := Tryd.isAgg57
  z37 := Tryd.sizeOf57
  v37 := Tryd.zeroValue57
  t70 := Tryd.underlying56
  a70 := Tryd.isAgg56
  z70 := Tryd.sizeOf56
  v70 := Tryd.zeroValue56
  t72 := Tryd.underlying59
  a72 := Tryd.isAgg59
  z72 := Tryd.sizeOf59
  v72 := Tryd.zeroValue59
  t75 := Tryd.underlying45
  a75 := Tryd.isAgg45
  z75 := Tryd.sizeOf45
  v75 := Tryd.zeroValue45
  t164 := Tryd.underlying100
  a164 := Tryd.isAgg100
  z164 := Tryd.sizeOf100
  v164 := Tryd.zeroValue100 }
theorem YtopfkelhgffomaaDoor.Builder_Extra_167 : Builder.Extra Tryd.prog YtopfkelhgffomaaDoor.lays167_ren := {
  sizeBuilder := by kernel_rfl
  liesBuilder := by kernel_rfl
  t5 := Tryd.underlying5
  a5 := Tryd.isAgg5
  z5 := Tryd.sizeOf5
  v5 := Tryd.zeroValue5
  infoByte := by kernel_rfl
  cellsByte := by kernel_rfl
  sizeByte := by kernel_rfl
  neB5 := by decide }
def YtopfkelhgffomaaDoor.lays168_ren : Go.Shelf.Ren := ⟨fun | 168 => 32 | 240 => 51 | 242 => 52 | 276 => 67 | 278 => 68 | n => n, fun | 0 => 0 | 3 => 3 | 4 => 4 | 5 => 5 | 9 => 9 | 20 => 20 | 21 => 21 | 37 => 57 | 46 => 79 | 51 => 102 | 70 => 56 | 72 => 59 | 75 => 45 | 80 => 60 | 164 => 100 | n => n, fun | n => n⟩
theorem YtopfkelhgffomaaDoor.lays168 : Go.Proofs.Lays.n168 Tryd.prog YtopfkelhgffomaaDoor.lays168_ren := {
  mixed := by kernel_rfl
  f168 := Tryd.func32.trans (congrArg some (by kernel_rfl))
  f240 := Tryd.func51.trans (congrArg some (by kernel_rfl))
  f242 := Tryd.func52.trans (congrArg some (by kernel_rfl))
  f276 := Tryd.func67.trans (congrArg some (by kernel_rfl))
  f278 := Tryd.func68.trans (congrArg some (by kernel_rfl))
  t0 := Tryd.underlying0
  a0 := Tryd.isAgg0
  z0 := Tryd.sizeOf0
  v0 := Tryd.zeroValue0
  t3 := Tryd.underlying3
  a3 := Tryd.isAgg3
  z3 := Tryd.sizeOf3
  v3 := Tryd.zeroValue3
  t4 := Tryd.underlying4
  a4 := Tryd.isAgg4
  z4 := Tryd.sizeOf4
  v4 := Tryd.zeroValue4
  t5 := Tryd.underlying5
  a5 := Tryd.isAgg5
  z5 := Tryd.sizeOf5
  v5 := Tryd.zeroValue5
  t9 := Tryd.underlying9
  a9 := Tryd.isAgg9
  z9 := Tryd.sizeOf9
  v9 := Tryd.zeroValue9
  t20 := Tryd.underlying20
  a20 := Tryd.isAgg20
  z20 := Tryd.sizeOf20
  v20 := Tryd.zeroValue20
  t21 := Tryd.underlying21
  a21 := Tryd.isAgg21
  z21 := Tryd.sizeOf21
  v21 := Tryd.zeroValue21
  t37 := Tryd.underlying57
  a37 := Tryd.isAgg57
  z37 := Tryd.sizeOf57
  v37 := Tryd.zeroValue57
  t46 := Tryd.underlying79
  a46 := Tryd.isAgg79
  z46 := Tryd.sizeOf79
  v46 := Tryd.zeroValue79
  t51 := Tryd.underlying102
  a51 := Tryd.isAgg102
  z51 := Tryd.sizeOf102
  v51 := Tryd.zeroValue102
  t70 := Tryd.underlying56
  a70 := Tryd.isAgg56
  z70 := Tryd.sizeOf56
  v70 := Tryd.zeroValue56
  t72 := Tryd.underlying59
  a72 := Tryd.isAgg59
  z72 := Tryd.sizeOf59
  v72 := Tryd.zeroValue59
  t75 := Tryd.underlying45
  a75 := Tryd.isAgg45
  z75 := Tryd.sizeOf45
  v75 := Tryd.zeroValue45
  t164 := Tryd.underlying100
  a164 := Tryd.isAgg100
  z164 := Tryd.sizeOf100
  v164 := Tryd.zeroValue100 }
theorem YtopfkelhgffomaaDoor.Builder_Extra_168 : Builder.Extra Tryd.prog YtopfkelhgffomaaDoor.lays168_ren := {
  sizeBuilder := by kernel_rfl
  liesBuilder := by kernel_rfl
  t5 := Tryd.underlying5
  a5 := Tryd.isAgg5
  z5 := Tryd.sizeOf5
  v5 := Tryd.zeroValue5
  infoByte := by kernel_rfl
  cellsByte := by kernel_rfl
  sizeByte := by kernel_rfl
  neB5 := by decide }
def YtopfkelhgffomaaDoor.lays169_ren : Go.Shelf.Ren := ⟨fun | 169 => 30 | n => n, fun | 0 => 0 | 3 => 3 | 5 => 5 | 9 => 9 | 37 => 57 | 70 => 56 | 72 => 59 | 127 => 83 | n => n, fun | n => n⟩
theorem YtopfkelhgffomaaDoor.lays169 : Go.Proofs.Lays.n169 Tryd.prog YtopfkelhgffomaaDoor.lays169_ren := {
  mixed := by kernel_rfl
  f169 := Tryd.func30.trans (congrArg some (by kernel_rfl))
  t0 := Tryd.underlying0
  a0 := Tryd.isAgg0
  z0 := Tryd.sizeOf0
  v0 := Tryd.zeroValue0
  t3 := Tryd.underlying3
  a3 := Tryd.isAgg3
  z3 := Tryd.sizeOf3
  v3 := Tryd.zeroValue3
  t9 := Tryd.underlying9
  a9 := Tryd.isAgg9
  z9 := Tryd.sizeOf9
  v9 := Tryd.zeroValue9
  t37 := Tryd.underlying57
  a37 := Tryd.isAgg57
  z37 := Tryd.sizeOf57
  v37 := Tryd.zeroValue57
  t70 := Tryd.underlying56
  a70 := Tryd.isAgg56
  z70 := Tryd.sizeOf56
  v70 := Tryd.zeroValue56
  t72 := Tryd.underlying59
  a72 := Tryd.isAgg59
  z72 := Tryd.sizeOf59
  v72 := Tryd.zeroValue59
  t127 := Tryd.underlying83
  a127 := Tryd.isAgg83
  z127 := Tryd.sizeOf83
  v127 := Tryd.zeroValue83 }
theorem YtopfkelhgffomaaDoor.Builder_Extra_169 : Builder.Extra Tryd.prog YtopfkelhgffomaaDoor.lays169_ren := {
  sizeBuilder := by kernel_rfl
  liesBuilder := by kernel_rfl
  t5 := Tryd.underlying5
  a5 := Tryd.isAgg5
  z5 := Tryd.sizeOf5
  v5 := Tryd.zeroValue5
  infoByte := by kernel_rfl
  cellsByte := by kernel_rfl
  sizeByte := by kernel_rfl
  neB5 := by decide }

/-- a builder of these bytes -/
def YtopfkelhgffomaaDoor.Bld (b : Nat) (l : List UInt8) (w : World) : Prop := Lib.IsBuilderF 59 5 b b (Lib.byteCells l) w
/-- what a write makes -/
def YtopfkelhgffomaaDoor.WrotePost (v : Value) (b : Nat) (l : List UInt8) (w : World) (e : Ending) (w' : World) : Prop := e = .returned v ∧ YtopfkelhgffomaaDoor.Bld b l w' ∧ Below b w w' ∧ Lib.OthersKept 5 (some b) w w'
/-- a text written -/
theorem YtopfkelhgffomaaDoor.writeStr (b : Nat) (l : List UInt8) (s : ByteArray) (w : World) (h : YtopfkelhgffomaaDoor.Bld b l w) (hlen : l.length + s.size ≤ 140737488355328) (hBw : b ≤ w.heap.size) :
    Calls Tryd.prog 39 #[.pointer (some ⟨b, 0, none⟩), .string s] w (YtopfkelhgffomaaDoor.WrotePost (.tuple #[.int .i64 s.size, .nilIface]) b (l ++ s.data.toList) w) := by
  refine (Any.Builder_WriteString_k YtopfkelhgffomaaDoor.lays166 YtopfkelhgffomaaDoor.Builder_Extra_166 b b _ s w h (by rw [Lib.byteCells_length]; exact hlen) hBw).mono ?_
  rintro e w' ⟨rfl, h1, h2, h3⟩
  refine ⟨rfl, ?_, h2, h3⟩
  unfold YtopfkelhgffomaaDoor.Bld
  rw [Lib.byteCells_append]
  exact Or.inr h1
theorem YtopfkelhgffomaaDoor.writeByte (b : Nat) (l : List UInt8) (c : UInt8) (w : World) (h : YtopfkelhgffomaaDoor.Bld b l w) (hlen : l.length + 1 ≤ 140737488355328) (hBw : b ≤ w.heap.size) :
    Calls Tryd.prog 38 #[.pointer (some ⟨b, 0, none⟩), .int .u8 (c.toNat : Nat)] w (YtopfkelhgffomaaDoor.WrotePost .nilIface b (l ++ [c]) w) := by
  refine (Any.Builder_WriteByte_k YtopfkelhgffomaaDoor.lays167 YtopfkelhgffomaaDoor.Builder_Extra_167 b b _ (c.toNat : Int) w h (by rw [Lib.byteCells_length]; exact hlen) hBw).mono ?_
  rintro e w' ⟨rfl, h1, h2, h3⟩
  refine ⟨rfl, ?_, h2, h3⟩
  unfold YtopfkelhgffomaaDoor.Bld
  rw [Lib.byteCells_append]
  exact Or.inr h1
theorem YtopfkelhgffomaaDoor.writeRune (b : Nat) (l : List UInt8) (r : Int) (hr0 : -2147483648 ≤ r) (hr1 : r ≤ 2147483647) (w : World) (h : YtopfkelhgffomaaDoor.Bld b l w) (hlen : l.length + 4 ≤ 140737488355328) (hBw : b ≤ w.heap.size) :
    Calls Tryd.prog 32 #[.pointer (some ⟨b, 0, none⟩), .int .i32 r] w (YtopfkelhgffomaaDoor.WrotePost (.tuple #[.int .i64 (Lib.runeCells r).length, .nilIface]) b (l ++ Lib.encodeRune r) w) := by
  refine (Any.Builder_WriteRune_k YtopfkelhgffomaaDoor.lays168 YtopfkelhgffomaaDoor.Builder_Extra_168 b b _ r hr0 hr1 w h (by rw [Lib.byteCells_length]; exact hlen) hBw).mono ?_
  rintro e w' ⟨rfl, h1, h2, h3⟩
  refine ⟨rfl, ?_, h2, h3⟩
  unfold YtopfkelhgffomaaDoor.Bld
  rw [Lib.byteCells_append, Lib.byteCells_encodeRune]
  exact Or.inr h1
/-- what was written -/
theorem YtopfkelhgffomaaDoor.built (b : Nat) (l : List UInt8) (w : World) (h : YtopfkelhgffomaaDoor.Bld b l w) (hBw : b ≤ w.heap.size) :
    Calls Tryd.prog 30 #[.pointer (some ⟨b, 0, none⟩)] w fun e w' => e = .returned (.string ⟨l.toArray⟩) ∧ Below b w w' :=
  (Any.Builder_String_any_f YtopfkelhgffomaaDoor.lays169 YtopfkelhgffomaaDoor.Builder_Extra_169 b b l w h hBw).mono fun _ _ h => ⟨h.1, h.2.2⟩
theorem YtopfkelhgffomaaDoor.fresh (w : World) : YtopfkelhgffomaaDoor.Bld w.heap.size [] (w.alloc (.cells #[.pointer none, .slice none 0 0] 59)) := Lib.IsBuilderF.of (Lib.fresh_isBuilder 59 5 w)
end Go.Proofs
