/-
  The shelf's contracts of (*strings.Builder).WriteByte, WriteRune, WriteString and String, laid at this dump. No conditions.
-/
import Derived.Shelf.Strings.BuilderK
import Derived.Shelf.Strings.BuilderRune
import Derived.Test.YtnkhnkklejakjaaDoorProg
namespace Go.Proofs
open Go.Shelf Go.RowKit
def YtnkhnkklejakjaaDoor.lays166_ren : Go.Shelf.Ren := ⟨fun | 166 => 19 | 240 => 27 | 276 => 36 | n => n, fun | 0 => 0 | 3 => 3 | 4 => 4 | 5 => 5 | 9 => 9 | 20 => 20 | 37 => 32 | 70 => 31 | 72 => 34 | 75 => 39 | 80 => 35 | 164 => 58 | n => n, fun | n => n⟩
theorem YtnkhnkklejakjaaDoor.lays166 : Go.Proofs.Lays.n166 Tryd.prog YtnkhnkklejakjaaDoor.lays166_ren := {
  mixed := by kernel_rfl
  f166 := Tryd.func19.trans (congrArg some (by kernel_rfl))
  f240 := Tryd.func27.trans (congrArg some (by kernel_rfl))
  f276 := Tryd.func36.trans (congrArg some (by kernel_rfl))
  t0 := Tryd.underlying0
  a0 := Tryd.isAgg0
  z0 := Tryd.sizeOf0
  v0 := Tryd.zeroValue0
  t3 := Tryd.underlying3
  a3 := Tryd.isAgg3
  z3 := Tryd.sizeOf3
  v3 := Tryd.zeroValue3
  t4 := Tryd.underlying4
  a4 := Tryd.isAgg4
  z4 := Tryd.sizeOf4
  v4 := Tryd.zeroValue4
  t9 := Tryd.underlying9
  a9 := Tryd.isAgg9
  z9 := Tryd.sizeOf9
  v9 := Tryd.zeroValue9
  t20 := Tryd.underlying20
  a20 := Tryd.isAgg20
  z20 := Tryd.sizeOf20
  v20 := Tryd.zeroValue20
  t37 := Tryd.underlying32
  a37 := Tryd.isAgg32
  z37 := Tryd.sizeOf32
  v37 := Tryd.zeroValue32
  t70 := Tryd.underlying31
  a70 := Tryd.isAgg31
  z70 := Tryd.sizeOf31
  v70 := Tryd.zeroValue31
  t72 := Tryd.underlying34
  a72 := Tryd.isAgg34
  z72 := Tryd.sizeOf34
  v72 := Tryd.zeroValue34
  t75 := Tryd.underlying39
  a75 := Tryd.isAgg39
  z75 := Tryd.sizeOf39
  v75 := Tryd.zeroValue39
  t164 := Tryd.underlying58
  a164 := Tryd.isAgg58
  z164 := Tryd.sizeOf58
  v164 := Tryd.zeroValue58 }
theorem YtnkhnkklejakjaaDoor.Builder_Extra_166 : Builder.Extra Tryd.prog YtnkhnkklejakjaaDoor.lays166_ren := {
  sizeBuilder := by kernel_rfl
  liesBuilder := by kernel_rfl
  t5 := Tryd.underlying5
  a5 := Tryd.isAgg5
  z5 := Tryd.sizeOf5
  v5 := Tryd.zeroValue5
  infoByte := by kernel_rfl
  cellsByte := by kernel_rfl
  sizeByte := by kernel_rfl
  neB5 := by decide }
def YtnkhnkklejakjaaDoor.lays167_ren : Go.Shelf.Ren := ⟨fun | 167 => 18 | 240 => 27 | 276 => 36 | n => n, fun | 0 => 0 | 4 => 4 | 5 => 5 | 9 => 9 | 20 => 20 | 37 => 32 | 70 => 31 | 72 => 34 | 75 => 39 | 80 => 35 | 164 => 58 | n => n, fun | n => n⟩
theorem YtnkhnkklejakjaaDoor.lays167 : Go.Proofs.Lays.n167 Tryd.prog YtnkhnkklejakjaaDoor.lays167_ren := {
  mixed := by kernel_rfl
  f167 := Tryd.func18.trans (congrArg some (by kernel_rfl))
  f240 := Tryd.func27.trans (congrArg some (by kernel_rfl))
  f276 := Tryd.func36.trans (congrArg some (by kernel_rfl))
  t0 := Tryd.underlying0
  a0 := Tryd.isAgg0
  z0 := Tryd.sizeOf0
  v0 := Tryd.zeroValue0
  t4 := Tryd.underlying4
  a4 := Tryd.isAgg4
  z4 := Tryd.sizeOf4
  v4 := Tryd.zeroValue4
  t5 := Tryd.underlying5
  a5 := Tryd.isAgg5
  z5 := Tryd.sizeOf5
  v5 := Tryd.zeroValue5
  t9 := Tryd.underlying9
  a9 := Tryd.isAgg9
  z9 := Tryd.sizeOf9
  v9 := Tryd.zeroValue9
  t20 := Tryd.underlying20
  a20 := Tryd.isAgg20
  z20 := Tryd.sizeOf20
  v20 := Tryd.zeroValue20
  t37 := Tryd.underlying32
  a37 := Tryd.isAgg32
  z37 := Tryd.sizeOf32
  v37 := Tryd.zeroValue32
  t70 := Tryd.underlying31
  a70 := Tryd.isAgg31
  z70 := Tryd.sizeOf31
  v70 := Tryd.zeroValue31
  t72 := Tryd.underlying34
  a72 := Tryd.isAgg34
  z72 := Tryd.sizeOf34
  v72 := Tryd.zeroValue34
  t75 := Tryd.underlying39
  a75 := Tryd.isAgg39
  z75 := Tryd.sizeOf39
  v75 := Tryd.zeroValue39
  t164 := Tryd.underlying58
  a164 := Tryd.isAgg58
  z164 := Tryd.sizeOf58
  v164 := Tryd.zeroValue58 }
theorem YtnkhnkklejakjaaDoor.Builder_Extra_167 : Builder.Extra Tryd.prog YtnkhnkklejakjaaDoor.lays167_ren := {
  sizeBuilder := by kernel_rfl
  liesBuilder := by kernel_rfl
  t5 := Tryd.underlying5
  a5 := Tryd.isAgg5
  z5 := Tryd.sizeOf5
  v5 := Tryd.zeroValue5
  infoByte := by kernel_rfl
  cellsByte := by kernel_rfl
  sizeByte := by kernel_rfl
  neB5 := by decide }
def YtnkhnkklejakjaaDoor.lays168_ren : Go.Shelf.Ren := ⟨fun | 168 => 16 | 240 => 27 | 242 => 28 | 276 => 36 | 278 => 37 | n => n, fun | 0 => 0 | 3 => 3 | 4 => 4 | 5 => 5 | 9 => 9 | 20 => 20 | 21 => 21 | 37 => 32 | 46 => 68 | 51 => 60 | 70 => 31 | 72 => 34 | 75 => 39 | 80 => 35 | 164 => 58 | n => n, fun | n => n⟩
theorem YtnkhnkklejakjaaDoor.lays168 : Go.Proofs.Lays.n168 Tryd.prog YtnkhnkklejakjaaDoor.lays168_ren := {
  mixed := by kernel_rfl
  f168 := Tryd.func16.trans (congrArg some (by kernel_rfl))
  f240 := Tryd.func27.trans (congrArg some (by kernel_rfl))
  f242 := Tryd.func28.trans (congrArg some (by kernel_rfl))
  f276 := Tryd.func36.trans (congrArg some (by kernel_rfl))
  f278 := Tryd.func37.trans (congrArg some (by kernel_rfl))
  t0 := Tryd.underlying0
  a0 := Tryd.isAgg0
  z0 := Tryd.sizeOf0
  v0 := Tryd.zeroValue0
  t3 := Tryd.underlying3
  a3 := Tryd.isAgg3
  z3 := Tryd.sizeOf3
  v3 := Tryd.zeroValue3
  t4 := Tryd.underlying4
  a4 := Tryd.isAgg4
  z4 := Tryd.sizeOf4
  v4 := Tryd.zeroValue4
  t5 := Tryd.underlying5
  a5 := Tryd.isAgg5
  z5 := Tryd.sizeOf5
  v5 := Tryd.zeroValue5
  t9 := Tryd.underlying9
  a9 := Tryd.isAgg9
  z9 := Tryd.sizeOf9
  v9 := Tryd.zeroValue9
  t20 := Tryd.underlying20
  a20 := Tryd.isAgg20
  z20 := Tryd.sizeOf20
  v20 := Tryd.zeroValue20
  t21 := Tryd.underlying21
  a21 := Tryd.isAgg21
  z21 := Tryd.sizeOf21
  v21 := Tryd.zeroValue21
  t37 := Tryd.underlying32
  a37 := Tryd.isAgg32
  z37 := Tryd.sizeOf32
  v37 := Tryd.zeroValue32
  t46 := Tryd.underlying68
  a46 := Tryd.isAgg68
  z46 := Tryd.sizeOf68
  v46 := Tryd.zeroValue68
  t51 := Tryd.underlying60
  a51 := Tryd.isAgg60
  z51 := Tryd.sizeOf60
  v51 := Tryd.zeroValue60
  t70 := Tryd.underlying31
  a70 := Tryd.isAgg31
  z70 := Tryd.sizeOf31
  v70 := Tryd.zeroValue31
  t72 := Tryd.underlying34
  a72 := Tryd.isAgg34
  z72 := Tryd.sizeOf34
  v72 := Tryd.zeroValue34
  t75 := Tryd.underlying39
  a75 := Tryd.isAgg39
  z75 := Tryd.sizeOf39
  v75 := Tryd.zeroValue39
  t164 := Tryd.underlying58
  a164 := Tryd.isAgg58
  z164 := Tryd.sizeOf58
  v164 := Tryd.zeroValue58 }
theorem YtnkhnkklejakjaaDoor.Builder_Extra_168 : Builder.Extra Tryd.prog YtnkhnkklejakjaaDoor.lays168_ren := {
  sizeBuilder := by kernel_rfl
  liesBuilder := by kernel_rfl
  t5 := Tryd.underlying5
  a5 := Tryd.isAgg5
  z5 := Tryd.sizeOf5
  v5 := Tryd.zeroValue5
  infoByte := by kernel_rfl
  cellsByte := by kernel_rfl
  sizeByte := by kernel_rfl
  neB5 := by decide }
def YtnkhnkklejakjaaDoor.lays169_ren : Go.Shelf.Ren := ⟨fun | 169 => 14 | n => n, fun | 0 => 0 | 3 => 3 | 5 => 5 | 9 => 9 | 37 => 32 | 70 => 31 | 72 => 34 | 127 => 48 | n => n, fun | n => n⟩
theorem YtnkhnkklejakjaaDoor.lays169 : Go.Proofs.Lays.n169 Tryd.prog YtnkhnkklejakjaaDoor.lays169_ren := {
  mixed := by kernel_rfl
  f169 := Tryd.func14.trans (congrArg some (by kernel_rfl))
  t0 := Tryd.underlying0
  a0 := Tryd.isAgg0
  z0 := Tryd.sizeOf0
  v0 := Tryd.zeroValue0
  t3 := Tryd.underlying3
  a3 := Tryd.isAgg3
  z3 := Tryd.sizeOf3
  v3 := Tryd.zeroValue3
  t9 := Tryd.underlying9
  a9 := Tryd.isAgg9
  z9 := Tryd.sizeOf9
  v9 := Tryd.zeroValue9
  t37 := Tryd.underlying32
  a37 := Tryd.isAgg32
  z37 := Tryd.sizeOf32
  v37 := Tryd.zeroValue32
  t70 := Tryd.underlying31
  a70 := Tryd.isAgg31
  z70 := Tryd.sizeOf31
  v70 := Tryd.zeroValue31
  t72 := Tryd.underlying34
  a72 := Tryd.isAgg34
  z72 := Tryd.sizeOf34
  v72 := Tryd.zeroValue34
  t127 := Tryd.underlying48
  a127 := Tryd.isAgg48
  z127 := Tryd.sizeOf48
  v127 := Tryd.zeroValue48 }
theorem YtnkhnkklejakjaaDoor.Builder_Extra_169 : Builder.Extra Tryd.prog YtnkhnkklejakjaaDoor.lays169_ren := {
  sizeBuilder := by kernel_rfl
  liesBuilder := by kernel_rfl
  t5 := Tryd.underlying5
  a5 := Tryd.isAgg5
  z5 := Tryd.sizeOf5
  v5 := Tryd.zeroValue5
  infoByte := by kernel_rfl
  cellsByte := by kernel_rfl
  sizeByte := by kernel_rfl
  neB5 := by decide }

/-- a builder of these bytes -/
def YtnkhnkklejakjaaDoor.Bld (b : Nat) (l : List UInt8) (w : World) : Prop := Lib.IsBuilderF 34 5 b b (Lib.byteCells l) w
/-- what a write makes -/
def YtnkhnkklejakjaaDoor.WrotePost (v : Value) (b : Nat) (l : List UInt8) (w : World) (e : Ending) (w' : World) : Prop := e = .returned v ∧ YtnkhnkklejakjaaDoor.Bld b l w' ∧ Below b w w' ∧ Lib.OthersKept 5 (some b) w w'
/-- a text written -/
theorem YtnkhnkklejakjaaDoor.writeStr (b : Nat) (l : List UInt8) (s : ByteArray) (w : World) (h : YtnkhnkklejakjaaDoor.Bld b l w) (hlen : l.length + s.size ≤ 140737488355328) (hBw : b ≤ w.heap.size) :
    Calls Tryd.prog 19 #[.pointer (some ⟨b, 0, none⟩), .string s] w (YtnkhnkklejakjaaDoor.WrotePost (.tuple #[.int .i64 s.size, .nilIface]) b (l ++ s.data.toList) w) := by
  refine (Any.Builder_WriteString_k YtnkhnkklejakjaaDoor.lays166 YtnkhnkklejakjaaDoor.Builder_Extra_166 b b _ s w h (by rw [Lib.byteCells_length]; exact hlen) hBw).mono ?_
  rintro e w' ⟨rfl, h1, h2, h3⟩
  refine ⟨rfl, ?_, h2, h3⟩
  unfold YtnkhnkklejakjaaDoor.Bld
  rw [Lib.byteCells_append]
  exact Or.inr h1
theorem YtnkhnkklejakjaaDoor.writeByte (b : Nat) (l : List UInt8) (c : UInt8) (w : World) (h : YtnkhnkklejakjaaDoor.Bld b l w) (hlen : l.length + 1 ≤ 140737488355328) (hBw : b ≤ w.heap.size) :
    Calls Tryd.prog 18 #[.pointer (some ⟨b, 0, none⟩), .int .u8 (c.toNat : Nat)] w (YtnkhnkklejakjaaDoor.WrotePost .nilIface b (l ++ [c]) w) := by
  refine (Any.Builder_WriteByte_k YtnkhnkklejakjaaDoor.lays167 YtnkhnkklejakjaaDoor.Builder_Extra_167 b b _ (c.toNat : Int) w h (by rw [Lib.byteCells_length]; exact hlen) hBw).mono ?_
  rintro e w' ⟨rfl, h1, h2, h3⟩
  refine ⟨rfl, ?_, h2, h3⟩
  unfold YtnkhnkklejakjaaDoor.Bld
  rw [Lib.byteCells_append]
  exact Or.inr h1
theorem YtnkhnkklejakjaaDoor.writeRune (b : Nat) (l : List UInt8) (r : Int) (hr0 : -2147483648 ≤ r) (hr1 : r ≤ 2147483647) (w : World) (h : YtnkhnkklejakjaaDoor.Bld b l w) (hlen : l.length + 4 ≤ 140737488355328) (hBw : b ≤ w.heap.size) :
    Calls Tryd.prog 16 #[.pointer (some ⟨b, 0, none⟩), .int .i32 r] w (YtnkhnkklejakjaaDoor.WrotePost (.tuple #[.int .i64 (Lib.runeCells r).length, .nilIface]) b (l ++ Lib.encodeRune r) w) := by
  refine (Any.Builder_WriteRune_k YtnkhnkklejakjaaDoor.lays168 YtnkhnkklejakjaaDoor.Builder_Extra_168 b b _ r hr0 hr1 w h (by rw [Lib.byteCells_length]; exact hlen) hBw).mono ?_
  rintro e w' ⟨rfl, h1, h2, h3⟩
  refine ⟨rfl, ?_, h2, h3⟩
  unfold YtnkhnkklejakjaaDoor.Bld
  rw [Lib.byteCells_append, Lib.byteCells_encodeRune]
  exact Or.inr h1
/-- what was written -/
theorem YtnkhnkklejakjaaDoor.built (b : Nat) (l : List UInt8) (w : World) (h : YtnkhnkklejakjaaDoor.Bld b l w) (hBw : b ≤ w.heap.size) :
    Calls Tryd.prog 14 #[.pointer (some ⟨b, 0, none⟩)] w fun e w' => e = .returned (.string ⟨l.toArray⟩) ∧ Below b w w' :=
  (Any.Builder_String_any_f YtnkhnkklejakjaaDoor.lays169 YtnkhnkklejakjaaDoor.Builder_Extra_169 b b l w h hBw).mono fun _ _ h => ⟨h.1, h.2.2⟩
theorem YtnkhnkklejakjaaDoor.fresh (w : World) : YtnkhnkklejakjaaDoor.Bld w.heap.size [] (w.alloc (.cells #[.pointer none, .slice none 0 0] 34)) := Lib.IsBuilderF.of (Lib.fresh_isBuilder 34 5 w)
end Go.Proofs
