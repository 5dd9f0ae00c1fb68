/-
  The shelf's contracts of (*strings.Builder).WriteByte, WriteRune, WriteString and String, laid at this dump. No conditions.
  Laws on appends, conversions and rows of memory, over any program: what a walk asks for where a call makes memory of its own. No conditions.
  A builder within a printer: WriteByte, WriteString and String. No conditions.
  Values: trees, and how they lie in memory. No conditions.
  The contracts of val.parts and of the iterator that it hands back. No conditions.
  Slices of integers that are read: what a walk asks of them, and how they come through calls that write nothing that was there. No conditions.
-/
import Derived.Shelf.Strings.BuilderK
import Derived.Shelf.Strings.BuilderRune
import Derived.Test.YtldhmfkojaekfaaGreatDoorProg
import Derived.WalkKit
import Derived.WalkSpells
import Derived.Lib.Hide
import Derived.Deep.QuietTactic
import Derived.BigQuiet
import Derived.Lib.OwnKind
import Derived.Lib.UnsafeStr
import Derived.Lib.AppendStr
import Derived.Deep.DeepFit
import Derived.WalkLawsBesides
import Derived.Below
import Derived.RangeFuncNested
import Derived.RangeFuncBound
import Derived.RangeFuncCalls
import Derived.RangeFuncLeaves
import Derived.Shelf.Abstract
import Derived.Shelf.RegionOpen
import Derived.OwnWalkIn
import Derived.TacticsInMore
import Derived.LoopNIn
import Derived.LoopIn
import Derived.Outline
namespace Go.Proofs
open Go.Shelf Go.RowKit
def YtldhmfkojaekfaaGreatDoor.lays166_ren : Go.Shelf.Ren := ⟨fun | 166 => 61 | 240 => 63 | 276 => 97 | n => n, fun | 0 => 0 | 3 => 3 | 4 => 4 | 5 => 5 | 9 => 9 | 20 => 20 | 37 => 72 | 70 => 71 | 72 => 74 | 75 => 79 | 80 => 81 | 164 => 135 | n => n, fun | n => n⟩
theorem YtldhmfkojaekfaaGreatDoor.lays166 : Go.Proofs.Lays.n166 Tryz.prog YtldhmfkojaekfaaGreatDoor.lays166_ren := {
  mixed := by kernel_rfl
  f166 := Tryz.func61.trans (congrArg some (by kernel_rfl))
  f240 := Tryz.func63.trans (congrArg some (by kernel_rfl))
  f276 := Tryz.func97.trans (congrArg some (by kernel_rfl))
  t0 := Tryz.underlying0
  a0 := Tryz.isAgg0
  z0 := Tryz.sizeOf0
  v0 := Tryz.zeroValue0
  t3 := Tryz.underlying3
  a3 := Tryz.isAgg3
  z3 := Tryz.sizeOf3
  v3 := Tryz.zeroValue3
  t4 := Tryz.underlying4
  a4 := Tryz.isAgg4
  z4 := Tryz.sizeOf4
  v4 := Tryz.zeroValue4
  t9 := Tryz.underlying9
  a9 := Tryz.isAgg9
  z9 := Tryz.sizeOf9
  v9 := Tryz.zeroValue9
  t20 := Tryz.underlying20
  a20 := Tryz.isAgg20
  z20 := Tryz.sizeOf20
  v20 := Tryz.zeroValue20
  t37 := Tryz.underlying72
  a37 := Tryz.isAgg72
  z37 := Tryz.sizeOf72
  v37 := Tryz.zeroValue72
  t70 := Tryz.underlying71
  a70 := Tryz.isAgg71
  z70 := Tryz.sizeOf71
  v70 := Tryz.zeroValue71
  t72 := Tryz.underlying74
  a72 := Tryz.isAgg74
  z72 := Tryz.sizeOf74
  v72 := Tryz.zeroValue74
  t75 := Tryz.underlying79
  a75 := Tryz.isAgg79
  z75 := Tryz.sizeOf79
  v75 := Tryz.zeroValue79
  t164 := Tryz.underlying135
  a164 := Tryz.isAgg135
  z164 := Tryz.sizeOf135
  v164 := Tryz.zeroValue135 }
theorem YtldhmfkojaekfaaGreatDoor.Builder_Extra_166 : Builder.Extra Tryz.prog YtldhmfkojaekfaaGreatDoor.lays166_ren := {
  sizeBuilder := by kernel_rfl
  liesBuilder := by kernel_rfl
  t5 := Tryz.underlying5
  a5 := Tryz.isAgg5
  z5 := Tryz.sizeOf5
  v5 := Tryz.zeroValue5
  infoByte := by kernel_rfl
  cellsByte := by kernel_rfl
  sizeByte := by kernel_rfl
  neB5 := by decide }
def YtldhmfkojaekfaaGreatDoor.lays167_ren : Go.Shelf.Ren := ⟨fun | 167 => 33 | 240 => 63 | 276 => 97 | n => n, fun | 0 => 0 | 4 => 4 | 5 => 5 | 9 => 9 | 20 => 20 | 37 => 72 | 70 => 71 | 72 => 74 | 75 => 79 | 80 => 81 | 164 => 135 | n => n, fun | n => n⟩
theorem YtldhmfkojaekfaaGreatDoor.lays167 : Go.Proofs.Lays.n167 Tryz.prog YtldhmfkojaekfaaGreatDoor.lays167_ren := {
  mixed := by kernel_rfl
  f167 := Tryz.func33.trans (congrArg some (by kernel_rfl))
  f240 := Tryz.func63.trans (congrArg some (by kernel_rfl))
  f276 := Tryz.func97.trans (congrArg some (by kernel_rfl))
  t0 := Tryz.underlying0
  a0 := Tryz.isAgg0
  z0 := Tryz.sizeOf0
  v0 := Tryz.zeroValue0
  t4 := Tryz.underlying4
  a4 := Tryz.isAgg4
  z4 := Tryz.sizeOf4
  v4 := Tryz.zeroValue4
  t5 := Tryz.underlying5
  a5 := Tryz.isAgg5
  z5 := Tryz.sizeOf5
  v5 := Tryz.zeroValue5
  t9 := Tryz.underlying9
  a9 := Tryz.isAgg9
  z9 := Tryz.sizeOf9
  v9 := Tryz.zeroValue9
  t20 := Tryz.underlying20
  a20 := Tryz.isAgg20
  z20 := Tryz.sizeOf20
  v20 := Tryz.zeroValue20
  t37 := Tryz.underlying72
  a37 := Tryz.isAgg72
  z37 := Tryz.sizeOf72
  v37 := Tryz.zeroValue72
  t70 := Tryz.underlying71
  a70 := Tryz.isAgg71
  z70 := Tryz.sizeOf71
  v70 := Tryz.zeroValue71
  t72 := Tryz.underlying74
  a72 := Tryz.isAgg74
  z72 := Tryz.sizeOf74
  v72 := Tryz.zeroValue74
  t75 := Tryz.underlying79
  a75 := Tryz.isAgg79
  z75 := Tryz.sizeOf79
  v75 := Tryz.zeroValue79
  t164 := Tryz.underlying135
  a164 := Tryz.isAgg135
  z164 := Tryz.sizeOf135
  v164 := Tryz.zeroValue135 }
theorem YtldhmfkojaekfaaGreatDoor.Builder_Extra_167 : Builder.Extra Tryz.prog YtldhmfkojaekfaaGreatDoor.lays167_ren := {
  sizeBuilder := by kernel_rfl
  liesBuilder := by kernel_rfl
  t5 := Tryz.underlying5
  a5 := Tryz.isAgg5
  z5 := Tryz.sizeOf5
  v5 := Tryz.zeroValue5
  infoByte := by kernel_rfl
  cellsByte := by kernel_rfl
  sizeByte := by kernel_rfl
  neB5 := by decide }
def YtldhmfkojaekfaaGreatDoor.lays168_ren : Go.Shelf.Ren := ⟨fun | 168 => 112 | 240 => 63 | 242 => 131 | 276 => 97 | 278 => 152 | n => n, fun | 0 => 0 | 3 => 3 | 4 => 4 | 5 => 5 | 9 => 9 | 20 => 20 | 21 => 21 | 37 => 72 | 46 => 111 | 51 => 145 | 70 => 71 | 72 => 74 | 75 => 79 | 80 => 81 | 164 => 135 | n => n, fun | n => n⟩
theorem YtldhmfkojaekfaaGreatDoor.lays168 : Go.Proofs.Lays.n168 Tryz.prog YtldhmfkojaekfaaGreatDoor.lays168_ren := {
  mixed := by kernel_rfl
  f168 := Tryz.func112.trans (congrArg some (by kernel_rfl))
  f240 := Tryz.func63.trans (congrArg some (by kernel_rfl))
  f242 := Tryz.func131.trans (congrArg some (by kernel_rfl))
  f276 := Tryz.func97.trans (congrArg some (by kernel_rfl))
  f278 := Tryz.func152.trans (congrArg some (by kernel_rfl))
  t0 := Tryz.underlying0
  a0 := Tryz.isAgg0
  z0 := Tryz.sizeOf0
  v0 := Tryz.zeroValue0
  t3 := Tryz.underlying3
  a3 := Tryz.isAgg3
  z3 := Tryz.sizeOf3
  v3 := Tryz.zeroValue3
  t4 := Tryz.underlying4
  a4 := Tryz.isAgg4
  z4 := Tryz.sizeOf4
  v4 := Tryz.zeroValue4
  t5 := Tryz.underlying5
  a5 := Tryz.isAgg5
  z5 := Tryz.sizeOf5
  v5 := Tryz.zeroValue5
  t9 := Tryz.underlying9
  a9 := Tryz.isAgg9
  z9 := Tryz.sizeOf9
  v9 := Tryz.zeroValue9
  t20 := Tryz.underlying20
  a20 := Tryz.isAgg20
  z20 := Tryz.sizeOf20
  v20 := Tryz.zeroValue20
  t21 := Tryz.underlying21
  a21 := Tryz.isAgg21
  z21 := Tryz.sizeOf21
  v21 := Tryz.zeroValue21
  t37 := Tryz.underlying72
  a37 := Tryz.isAgg72
  z37 := Tryz.sizeOf72
  v37 := Tryz.zeroValue72
  t46 := Tryz.underlying111
  a46 := Tryz.isAgg111
  z46 := Tryz.sizeOf111
  v46 := Tryz.zeroValue111
  t51 := Tryz.underlying145
  a51 := Tryz.isAgg145
  z51 := Tryz.sizeOf145
  v51 := Tryz.zeroValue145
  t70 := Tryz.underlying71
  a70 := Tryz.isAgg71
  z70 := Tryz.sizeOf71
  v70 := Tryz.zeroValue71
  t72 := Tryz.underlying74
  a72 := Tryz.isAgg74
  z72 := Tryz.sizeOf74
  v72 := Tryz.zeroValue74
  t75 := Tryz.underlying79
  a75 := Tryz.isAgg79
  z75 := Tryz.sizeOf79
  v75 := Tryz.zeroValue79
  t164 := Tryz.underlying135
  a164 := Tryz.isAgg135
  z164 := Tryz.sizeOf135
  v164 := Tryz.zeroValue135 }
theorem YtldhmfkojaekfaaGreatDoor.Builder_Extra_168 : Builder.Extra Tryz.prog YtldhmfkojaekfaaGreatDoor.lays168_ren := {
  sizeBuilder := by kernel_rfl
  liesBuilder := by kernel_rfl
  t5 := Tryz.underlying5
  a5 := Tryz.isAgg5
  z5 := Tryz.sizeOf5
  v5 := Tryz.zeroValue5
  infoByte := by kernel_rfl
  cellsByte := by kernel_rfl
  sizeByte := by kernel_rfl
  neB5 := by decide }
def YtldhmfkojaekfaaGreatDoor.lays169_ren : Go.Shelf.Ren := ⟨fun | 169 => 34 | n => n, fun | 0 => 0 | 3 => 3 | 5 => 5 | 9 => 9 | 37 => 72 | 70 => 71 | 72 => 74 | 127 => 106 | n => n, fun | n => n⟩
theorem YtldhmfkojaekfaaGreatDoor.lays169 : Go.Proofs.Lays.n169 Tryz.prog YtldhmfkojaekfaaGreatDoor.lays169_ren := {
  mixed := by kernel_rfl
  f169 := Tryz.func34.trans (congrArg some (by kernel_rfl))
  t0 := Tryz.underlying0
  a0 := Tryz.isAgg0
  z0 := Tryz.sizeOf0
  v0 := Tryz.zeroValue0
  t3 := Tryz.underlying3
  a3 := Tryz.isAgg3
  z3 := Tryz.sizeOf3
  v3 := Tryz.zeroValue3
  t9 := Tryz.underlying9
  a9 := Tryz.isAgg9
  z9 := Tryz.sizeOf9
  v9 := Tryz.zeroValue9
  t37 := Tryz.underlying72
  a37 := Tryz.isAgg72
  z37 := Tryz.sizeOf72
  v37 := Tryz.zeroValue72
  t70 := Tryz.underlying71
  a70 := Tryz.isAgg71
  z70 := Tryz.sizeOf71
  v70 := Tryz.zeroValue71
  t72 := Tryz.underlying74
  a72 := Tryz.isAgg74
  z72 := Tryz.sizeOf74
  v72 := Tryz.zeroValue74
  t127 := Tryz.underlying106
  a127 := Tryz.isAgg106
  z127 := Tryz.sizeOf106
  v127 := Tryz.zeroValue106 }
theorem YtldhmfkojaekfaaGreatDoor.Builder_Extra_169 : Builder.Extra Tryz.prog YtldhmfkojaekfaaGreatDoor.lays169_ren := {
  sizeBuilder := by kernel_rfl
  liesBuilder := by kernel_rfl
  t5 := Tryz.underlying5
  a5 := Tryz.isAgg5
  z5 := Tryz.sizeOf5
  v5 := Tryz.zeroValue5
  infoByte := by kernel_rfl
  cellsByte := by kernel_rfl
  sizeByte := by kernel_rfl
  neB5 := by decide }

/-- a builder of these bytes -/
def YtldhmfkojaekfaaGreatDoor.Bld (b : Nat) (l : List UInt8) (w : World) : Prop := Lib.IsBuilderF 74 5 b b (Lib.byteCells l) w
/-- what a write makes -/
def YtldhmfkojaekfaaGreatDoor.WrotePost (v : Value) (b : Nat) (l : List UInt8) (w : World) (e : Ending) (w' : World) : Prop := e = .returned v ∧ YtldhmfkojaekfaaGreatDoor.Bld b l w' ∧ Below b w w' ∧ Lib.OthersKept 5 (some b) w w'
/-- a text written -/
theorem YtldhmfkojaekfaaGreatDoor.writeStr (b : Nat) (l : List UInt8) (s : ByteArray) (w : World) (h : YtldhmfkojaekfaaGreatDoor.Bld b l w) (hlen : l.length + s.size ≤ 140737488355328) (hBw : b ≤ w.heap.size) :
    Calls Tryz.prog 61 #[.pointer (some ⟨b, 0, none⟩), .string s] w (YtldhmfkojaekfaaGreatDoor.WrotePost (.tuple #[.int .i64 s.size, .nilIface]) b (l ++ s.data.toList) w) := by
  refine (Any.Builder_WriteString_k YtldhmfkojaekfaaGreatDoor.lays166 YtldhmfkojaekfaaGreatDoor.Builder_Extra_166 b b _ s w h (by rw [Lib.byteCells_length]; exact hlen) hBw).mono ?_
  rintro e w' ⟨rfl, h1, h2, h3⟩
  refine ⟨rfl, ?_, h2, h3⟩
  unfold YtldhmfkojaekfaaGreatDoor.Bld
  rw [Lib.byteCells_append]
  exact Or.inr h1
theorem YtldhmfkojaekfaaGreatDoor.writeByte (b : Nat) (l : List UInt8) (c : UInt8) (w : World) (h : YtldhmfkojaekfaaGreatDoor.Bld b l w) (hlen : l.length + 1 ≤ 140737488355328) (hBw : b ≤ w.heap.size) :
    Calls Tryz.prog 33 #[.pointer (some ⟨b, 0, none⟩), .int .u8 (c.toNat : Nat)] w (YtldhmfkojaekfaaGreatDoor.WrotePost .nilIface b (l ++ [c]) w) := by
  refine (Any.Builder_WriteByte_k YtldhmfkojaekfaaGreatDoor.lays167 YtldhmfkojaekfaaGreatDoor.Builder_Extra_167 b b _ (c.toNat : Int) w h (by rw [Lib.byteCells_length]; exact hlen) hBw).mono ?_
  rintro e w' ⟨rfl, h1, h2, h3⟩
  refine ⟨rfl, ?_, h2, h3⟩
  unfold YtldhmfkojaekfaaGreatDoor.Bld
  rw [Lib.byteCells_append]
  exact Or.inr h1
theorem YtldhmfkojaekfaaGreatDoor.writeRune (b : Nat) (l : List UInt8) (r : Int) (hr0 : -2147483648 ≤ r) (hr1 : r ≤ 2147483647) (w : World) (h : YtldhmfkojaekfaaGreatDoor.Bld b l w) (hlen : l.length + 4 ≤ 140737488355328) (hBw : b ≤ w.heap.size) :
    Calls Tryz.prog 112 #[.pointer (some ⟨b, 0, none⟩), .int .i32 r] w (YtldhmfkojaekfaaGreatDoor.WrotePost (.tuple #[.int .i64 (Lib.runeCells r).length, .nilIface]) b (l ++ Lib.encodeRune r) w) := by
  refine (Any.Builder_WriteRune_k YtldhmfkojaekfaaGreatDoor.lays168 YtldhmfkojaekfaaGreatDoor.Builder_Extra_168 b b _ r hr0 hr1 w h (by rw [Lib.byteCells_length]; exact hlen) hBw).mono ?_
  rintro e w' ⟨rfl, h1, h2, h3⟩
  refine ⟨rfl, ?_, h2, h3⟩
  unfold YtldhmfkojaekfaaGreatDoor.Bld
  rw [Lib.byteCells_append, Lib.byteCells_encodeRune]
  exact Or.inr h1
/-- what was written -/
theorem YtldhmfkojaekfaaGreatDoor.built (b : Nat) (l : List UInt8) (w : World) (h : YtldhmfkojaekfaaGreatDoor.Bld b l w) (hBw : b ≤ w.heap.size) :
    Calls Tryz.prog 34 #[.pointer (some ⟨b, 0, none⟩)] w fun e w' => e = .returned (.string ⟨l.toArray⟩) ∧ Below b w w' :=
  (Any.Builder_String_any_f YtldhmfkojaekfaaGreatDoor.lays169 YtldhmfkojaekfaaGreatDoor.Builder_Extra_169 b b l w h hBw).mono fun _ _ h => ⟨h.1, h.2.2⟩
theorem YtldhmfkojaekfaaGreatDoor.fresh (w : World) : YtldhmfkojaekfaaGreatDoor.Bld w.heap.size [] (w.alloc (.cells #[.pointer none, .slice none 0 0] 74)) := Lib.IsBuilderF.of (Lib.fresh_isBuilder 74 5 w)
end Go.Proofs
namespace Go.Proofs.YtldhmfkojaekfaaGreatDoor.Gx
open Go Go.RowKit

/-- what is owned, and where it went: the row is the same, or a new one -/
def Moved (v v' : Value) (lo : Nat) : Prop := v'.ownBlock = v.ownBlock ∨ ∃ g, v'.ownBlock = some g ∧ lo ≤ g

theorem Moved.ne {v v' : Value} {lo k : Nat} (h : Moved v v' lo) (hk : k < lo) (hne : v.ownBlock ≠ some k) : v'.ownBlock ≠ some k := by
  rcases h with h | ⟨g, h, hg⟩
  · rw [h]; exact hne
  · rw [h]; intro e; cases e; omega

section
variable {P : Program}

theorem run_append_moved (w : World) (base : Nat) (t ty e : TypeId) (i : TypeInfo) (z : Value) (size bytes : Nat) (ht : P.underlying t = some (.slice e)) (hi : P.info? e = some i) (hz : i.zero = some z)
    (hsize : i.size = size) (hby : i.bytes = bytes) (hzs : z.cells.size = size) (hsz : 0 < size)
    (v : Value) (n : Nat) (xs : List Value) (hown : w.ownsRow base e size v n xs)
    (a : Addr) (m c : Nat) (news : List Value) (hl : news.length = m * size) (hnews : ∀ j u, news[j]? = some u → w.cell? (a.add j) = some u) (h1 : ∀ u ∈ news, u.oneCell' = true)
    (hbytes : (n + m) * bytes ≤ 140737488355328) (h63 : n + m ≤ maxLen) (hbase : base ≤ w.heap.size) :
    ∃ v' w', (Builtin.append_ #[t, t] ty #[v, .slice (some a) m c]).run P w = .ok v' w' ∧ w'.ownsRow base e size v' (n + m) (xs ++ news) ∧ w.grownBy w' v.ownBlock ∧
      Moved v v' w.heap.size ∧ (v' = .slice none 0 0 ↔ v = .slice none 0 0 ∧ m = 0) := by
  obtain ⟨v', w', hr, ho, hg, hn⟩ := run_append_own (P := P) w base t ty e i z size bytes ht hi hz hsize hby hzs hsz v n xs hown a m c news hl hnews h1 h63 hbytes hbase
  refine ⟨v', w', hr, ho, hg, ?_, hn⟩
  subst hsize; subst hby
  have hsmall : n + m ≤ 9223372036854775807 := by simp only [maxLen] at h63; omega
  rcases hown.2 with ⟨rfl, rfl⟩ | ⟨g, cap, cur, rfl, hbg, hgg, hnc, hcm, hcs, htake⟩
  · have hx : xs = [] := List.eq_nil_of_length_eq_zero (by simpa using hown.1)
    subst hx
    by_cases hm : m = 0
    · exact .inl (by rw [hn.2 ⟨rfl, hm⟩])
    · have hr2 := run_append_nil (P := P) w t ty e i z ht hi hz a m c news hl hnews (by omega) (by omega) (by have hb := hbytes; simp only [Nat.zero_add] at hb; omega)
      rw [hr] at hr2
      obtain ⟨rfl, rfl⟩ := hr2
      exact .inr ⟨_, rfl, Nat.le_refl _⟩
  · by_cases hroom : n + m ≤ cap
    · have hfit : n * i.size + news.length ≤ cur.size := by rw [hl, hcs, ← Nat.add_mul]; exact Nat.mul_le_mul_right _ hroom
      have hr2 := run_append_room (P := P) w t ty e i ht hi g n cap cur hgg a m c news hl hnews h1 hroom hfit
      rw [hr] at hr2
      obtain ⟨rfl, rfl⟩ := hr2
      exact .inl rfl
    · have holds : ∀ j u, xs[j]? = some u → w.cell? ((⟨g, 0, none⟩ : Addr).add j) = some u := hown.cells (g := g) rfl
      have hr2 := run_append_grow (P := P) w t ty e i z ht hi hz ⟨g, 0, none⟩ n cap xs hown.1 holds a m c news hl hnews (by omega) (by omega) (growslice_fits (by omega) hbytes)
      rw [hr] at hr2
      obtain ⟨rfl, rfl⟩ := hr2
      exact .inr ⟨_, rfl, Nat.le_refl _⟩

/-- 'append(out, x)' of one element: the element lies in a new block of its own, laid just before. All is told of the world ahead of that block. -/
theorem wpList_push (w : World) {ops : Array Oper} {rest : List Oper} {o : Oper} {ac : Act} {Q : Exit → Act → World → Prop} (hgd : o.guard = none) (s x : Operand) (t : TypeId)
    (ho : o.op = .call { callee := .builtin .append, args := #[s, x], argTypes := #[t, t] })
    (base : Nat) (e : TypeId) (z : Value) (size bytes : Nat) (ht : P.underlying t = some (.slice e))
    (hinfo : (P.info? e).map (fun i => (i.zero, i.size, i.bytes)) = some (some z, size, bytes)) (hzs : z.cells.size = size) (hsz : 0 < size)
    (v : Value) (n : Nat) (xs : List Value) (news : List Value) (o' : Obj) (ho' : o' = .cells news.toArray e) (hs : ac.eval s = v) (hown : w.ownsRow base e size v n xs)
    (hx : ac.eval x = .slice (some ⟨w.heap.size, 0, none⟩) 1 1) (hl : news.length = size) (h1 : ∀ u ∈ news, u.oneCell' = true)
    (hbytes : (n + 1) * bytes ≤ 140737488355328) (h63 : n + 1 ≤ 9223372036854775807) (hbase : base ≤ w.heap.size)
    (h : ∀ v' w', w'.ownsRow base e size v' (n + 1) (xs ++ news) → w.grownBy w' v.ownBlock → Moved v v' w.heap.size → v' ≠ .slice none 0 0 → wpList P ops Q rest (ac.put o.dst v') w') :
    wpList P ops Q (o :: rest) ac (w.alloc o') := by
  subst ho'
  obtain ⟨i, hi, hz0, hz1, hz2⟩ := info_parts hinfo
  refine wpList_plain hgd fun K hK => ?_
  obtain ⟨v', w', hr, ho2, hg, hm, hn⟩ := run_append_moved (P := P) (w.alloc (.cells news.toArray e)) base t o.type e i z size bytes ht hi hz0 hz1 hz2 hzs hsz v n xs (hown.alloc _)
    ⟨w.heap.size, 0, none⟩ 1 1 news (by simpa using hl) (fun j u hj => by
      rw [Addr.add_lit]
      have := World.cell?_alloc_mark w news.toArray e (0, 0) (0 + j)
      rw [this]; simpa using hj) h1 hbytes (by unfold maxLen; omega) (by simp; omega)
  unfold Oper.wp execOp
  simp only [ho, resolve, invoke, builtin, Sem.run_bind, Sem.run_pure, Result.andThen_ok, List.map_toArray, List.map_cons, List.map_nil, hs, hx, hr]
  refine hK _ _ (h v' w' ho2 ?_ ?_ ?_)
  · refine ⟨hg.os, hg.tape, hg.output, Nat.le_trans (by simp) hg.size, fun k hk hne => ?_⟩
    rw [hg.block k (by simp; omega) hne]
    exact heap_alloc_old w _ hk
  · rcases hm with hm | ⟨g, hm, hgl⟩
    · exact .inl hm
    · exact .inr ⟨g, hm, by simp at hgl; omega⟩
  · intro hh
    have := hn.1 hh
    omega

/-- 'append(out, xs...)', whatever the source's address: nil, empty or not -/
theorem wpList_append_all (w : World) {ops : Array Oper} {rest : List Oper} {o : Oper} {ac : Act} {Q : Exit → Act → World → Prop} (hgd : o.guard = none) (s x : Operand) (t : TypeId)
    (ho : o.op = .call { callee := .builtin .append, args := #[s, x], argTypes := #[t, t] })
    (base : Nat) (e : TypeId) (z : Value) (size bytes : Nat) (ht : P.underlying t = some (.slice e))
    (hinfo : (P.info? e).map (fun i => (i.zero, i.size, i.bytes)) = some (some z, size, bytes)) (hzs : z.cells.size = size) (hsz : 0 < size)
    (v : Value) (n : Nat) (xs : List Value) (ad : Option Addr) (m c : Nat) (news : List Value) (hs : ac.eval s = v) (hx : ac.eval x = .slice ad m c) (hown : w.ownsRow base e size v n xs)
    (hl : news.length = m * size) (hn : ad = none → m = 0 ∧ c = 0) (hnews : ∀ a, ad = some a → ∀ j u, news[j]? = some u → w.cell? (a.add j) = some u) (h1 : ∀ u ∈ news, u.oneCell' = true)
    (hbytes : (n + m) * bytes ≤ 140737488355328) (h63 : n + m ≤ 9223372036854775807) (hbase : base ≤ w.heap.size)
    (h : ∀ v' w', w'.ownsRow base e size v' (n + m) (xs ++ news) → w.grownBy w' v.ownBlock → Moved v v' w.heap.size → wpList P ops Q rest (ac.put o.dst v') w') :
    wpList P ops Q (o :: rest) ac w := by
  obtain ⟨i, hi, hz0, hz1, hz2⟩ := info_parts hinfo
  refine wpList_plain hgd fun K hK => ?_
  cases ad with
  | some a =>
    obtain ⟨v', w', hr, ho2, hg, hm, -⟩ := run_append_moved (P := P) w base t o.type e i z size bytes ht hi hz0 hz1 hz2 hzs hsz v n xs hown a m c news hl (hnews a rfl) h1 hbytes (by unfold maxLen; omega) hbase
    unfold Oper.wp execOp
    simp only [ho, resolve, invoke, builtin, Sem.run_bind, Sem.run_pure, Result.andThen_ok, List.map_toArray, List.map_cons, List.map_nil, hs, hx, hr]
    exact hK _ _ (h v' w' ho2 hg hm)
  | none =>
    obtain ⟨rfl, rfl⟩ := hn rfl
    have hnews0 : news = [] := List.eq_nil_of_length_eq_zero (by simpa using hl)
    subst hnews0
    have hr := run_append_owned_none (P := P) w base t o.type e i size ht hi v n xs hown
    unfold Oper.wp execOp
    simp only [ho, resolve, invoke, builtin, Sem.run_bind, Sem.run_pure, Result.andThen_ok, List.map_toArray, List.map_cons, List.map_nil, hs, hx, hr]
    exact hK _ _ (h v w (by simpa using hown) (World.grownBy.refl _ _) (.inl rfl))

/-- '[]byte(s)': a new row of the string's bytes; the world is told as one that has grown. -/
theorem conv_bytes_run (w : World) (src dst e : TypeId) (s : ByteArray) (hs : P.underlying src = some .string) (hd : P.underlying dst = some (.slice e)) (he : P.underlying e = some (.int .u8)) :
    ∃ cap w', (convert src dst (.string s)).run P w = .ok (.slice (some ⟨w.heap.size, 0, none⟩) s.size cap) w' ∧ s.size ≤ cap ∧ w.heap.size < w'.heap.size ∧ w.grownBy w' none ∧
      ∀ j (h : j < s.data.size), w'.cell? ⟨w.heap.size, j, none⟩ = some (.int .u8 (s.data[j].toNat : Int)) := by
  refine ⟨_, _, run_bytes_of_string w src dst e s hs hd he, grownCap_ge _ _ _ _, by simp, ⟨rfl, rfl, rfl, by simp, fun k hk _ => heap_alloc_old w.drew _ hk⟩, fun j h => ?_⟩
  rw [← bytesRow_at s (grownCap w s.size 0 e) j h]
  exact World.cell?_alloc_mark w.drew _ _ _ j
end

/-- a row that a call made, read cell by cell -/
theorem own_cell {w : World} {base : Nat} {e : TypeId} {v : Value} {n : Nat} {xs : List Value} (h : w.ownsRow base e 1 v n xs) (hn : 0 < n) :
    ∃ g cap, v = .slice (some ⟨g, 0, none⟩) n cap ∧ base ≤ g ∧ n ≤ cap ∧ g < w.heap.size ∧ ∀ j u, xs[j]? = some u → w.cell? ⟨g, j, none⟩ = some u := by
  have hc := fun g => h.cells (g := g)
  have hlt := h.lt
  rcases h.2 with ⟨rfl, h0⟩ | ⟨g, cap, cur, rfl, hb, hg, hnc, _⟩
  · omega
  · refine ⟨g, cap, rfl, hb, hnc, (hlt g rfl).2, fun j u hj => ?_⟩
    have := hc g rfl j u hj
    rwa [Addr.add_lit, Nat.zero_add] at this

/-- how long a slice is -/
def lenOf : Value → Nat | .slice _ n _ => n | _ => 0

theorem own_form {w : World} {base : Nat} {e : TypeId} {size : Nat} {v : Value} {n : Nat} {xs : List Value} (h : w.ownsRow base e size v n xs) : ∃ vo vc, v = .slice vo n vc := by
  rcases h.2 with ⟨rfl, rfl⟩ | ⟨g, cap, cur, rfl, _⟩
  · exact ⟨none, 0, rfl⟩
  · exact ⟨_, cap, rfl⟩

/-- what is owned stays so through a call that writes nothing that was there -/
theorem own_keep {w w' : World} {base : Nat} {e : TypeId} {size : Nat} {v : Value} {n : Nat} {xs : List Value} (h : w.ownsRow base e size v n xs) (hb : Below w.heap.size w w') : w'.ownsRow base e size v n xs := by
  refine ⟨h.1, ?_⟩
  rcases h.2 with h2 | ⟨g, cap, cur, hv, hg, hh, r⟩
  · exact .inl h2
  · exact .inr ⟨g, cap, cur, hv, hg, by rw [hb.block g (Array.getElem?_eq_some_iff.1 hh).1]; exact hh, r⟩

theorem grown_below {w w' : World} {row : Option Nat} {B : Nat} (hg : w.grownBy w' row) (hB : B ≤ w.heap.size) (hr : ∀ k, row = some k → B ≤ k) : Below B w w' :=
  (Below.refl B w).grown hg hB hr

/-- a slice of integers that came in: it is nil; or it leads to a row of 'cap' cells, the numbers 'zs' (the first 'len' are its elements) -/
def IsRow (k : IntKind) (w : World) (a : Option Addr) (len cap : Nat) (zs : List Int) : Prop :=
  (a = none ∧ len = 0 ∧ cap = 0 ∧ zs = []) ∨
  ∃ x, a = some x ∧ len ≤ cap ∧ cap ≤ maxLen ∧ zs.length = cap ∧ (∀ i, i < zs.length → w.cell? (x.add i) = some (.int k (zs.getD i 0))) ∧ ∀ n ∈ zs, (Lit.int k n).wf = true

theorem drewN_below (w : World) (n B : Nat) : Below B w (w.drewN n) := ⟨rfl, rfl, rfl, Nat.le_refl _, fun _ _ => rfl⟩

end Go.Proofs.YtldhmfkojaekfaaGreatDoor.Gx
namespace Go.Proofs.YtldhmfkojaekfaaGreatDoor
open Go.RowKit Go.Shelf Gx
set_option maxRecDepth 100000

/-- a printer that holds these bytes -/
structure Prn (b : Nat) (many : Bool) (l : List UInt8) (w : World) : Prop where
  ex : ∃ p v, (p = .pointer none ∨ p = .pointer (some ⟨b, 0, none⟩)) ∧ w.heap[b]? = some (.cells #[p, v, .bool many] 76) ∧ w.ownsRow (b + 1) 5 1 v l.length (Lib.byteCells l)
theorem Prn.lt {b : Nat} {many : Bool} {l : List UInt8} {w : World} (h : Prn b many l w) : b < w.heap.size := by
  obtain ⟨p, v, -, hb, -⟩ := h.ex
  exact (Array.getElem?_eq_some_iff.1 hb).1
theorem Prn.many_ {b : Nat} {many : Bool} {l : List UInt8} {w : World} (h : Prn b many l w) : w.cell? ⟨b, 2, none⟩ = some (.bool many) := by
  obtain ⟨p, v, -, hb, -⟩ := h.ex
  rw [Lib.cell_of_heap hb]; rfl
theorem Prn.keep {b : Nat} {many : Bool} {l : List UInt8} {w w' : World} (h : Prn b many l w) (hb : Below w.heap.size w w') : Prn b many l w' := by
  obtain ⟨p, v, hp, hb', ho⟩ := h.ex
  exact ⟨p, v, hp, (hb.block _ h.lt).trans hb', own_keep ho hb⟩
def PrnPost (v : Value) (b : Nat) (many : Bool) (l : List UInt8) (w : World) (e : Ending) (w' : World) : Prop := e = .returned v ∧ Prn b many l w' ∧ Below b w w' ∧ Lib.OthersKept 5 (some b) w w' ∧ w.heap.size ≤ w'.heap.size
/-- behind copyCheck -/
def UsedPost (b : Nat) (many : Bool) (l : List UInt8) (w : World) (e : Ending) (w' : World) : Prop :=
  e = .returned (.tuple #[]) ∧ (∃ v, w'.heap[b]? = some (.cells #[.pointer (some ⟨b, 0, none⟩), v, .bool many] 76) ∧ w'.ownsRow (b + 1) 5 1 v l.length (Lib.byteCells l)) ∧ Below b w w' ∧ Lib.OthersKept 5 (some b) w w' ∧ w'.heap.size = w.heap.size
theorem info_builder : ∃ j, Tryz.prog.info? 74 = some j ∧ j.size = 2 := Option.map_eq_some_iff.1 (show (Tryz.prog.info? 74).map (·.size) = some 2 by kernel_rfl)
set_option maxHeartbeats 2000000 in
theorem copyCheck_prn (b : Nat) (many : Bool) (l : List UInt8) (w : World) (h : Prn b many l w) : Calls Tryz.prog 63 #[.pointer (some ⟨b, 0, none⟩)] w (UsedPost b many l w) := by
  obtain ⟨p, v, hp, hb, ho⟩ := h.ex
  obtain ⟨j, hj, hjs⟩ := info_builder
  have hlt := h.lt
  have c0 : w.cell? ⟨b, 0, none⟩ = some p := by rw [Lib.cell_of_heap hb]; rfl
  have f0 : w.frozen? ⟨b, 0, none⟩ = false := Lib.frozen_of_heap hb 0
  have hsh : w.shape? b = some (76, 3) := by simp [World.shape?, hb]
  rcases hp with rfl | rfl
  · have hb2 : (w.setCell ⟨b, 0, none⟩ (.pointer (some ⟨b, 0, none⟩))).heap[b]? = some (.cells #[.pointer (some ⟨b, 0, none⟩), v, .bool many] 76) := by simp [World.setCell, Array.getElem?_modify, hb]
    have ho2 : (w.setCell ⟨b, 0, none⟩ (.pointer (some ⟨b, 0, none⟩))).ownsRow (b + 1) 5 1 v l.length (Lib.byteCells l) := ho.kept (row := some b) ⟨rfl, rfl, rfl, by simp [World.setCell], fun k _ hk => Below.heap_setCell _ _ _ _ (fun e => hk (by simp [e]))⟩ (by
      cases hv : v.ownBlock with
      | none => exact .inl rfl
      | some g => exact .inr (fun e => by have := (ho.lt g hv).1; have := Option.some.inj e; omega))
    have HB := Lib.hid hb2
    have HO := Lib.hid ho2
    clear hb hb2 ho ho2 h
    go_enter Tryz.func63, Tryz.ntmps63
    go_wp2
    rw [Lib.run_to_unsafe w ⟨b, 0, none⟩ Tryz.underlying71 Tryz.underlying135 hj (by rw [hjs]; decide) hsh (show (0 : Nat) < 3 by decide)]
    simp only [Result.andThen]
    rw [Oper.upon_value]
    go_wp2
    rw [run_callFunc_extern Tryz.func97 (by kernel_rfl) (by kernel_rfl) (by kernel_rfl) (e := Extern.AbiNoEscape.same) (by kernel_rfl)]
    rw [Lib.run_noEscape]
    simp only [Result.andThen]
    rw [Oper.upon_value]
    go_wp2
    rw [Lib.run_from_unsafe w ⟨b, 0, none⟩ Tryz.underlying135 Tryz.underlying71 hj hsh (by kernel_rfl)]
    simp only [Result.andThen]
    rw [Oper.upon_value]
    go_wp2
    go_end0
    exact ⟨rfl, ⟨v, HB.out, HO.out⟩, (Below.refl b w).setCell (p := ⟨b, 0, none⟩) (Nat.le_refl _) _, (Lib.OthersKept.refl _ _ w).setCell ⟨b, 0, none⟩ rfl _, by simp [World.setCell]⟩
  · refine (Any.Builder_copyCheck_used (P := Tryz.prog) (ρ := YtldhmfkojaekfaaGreatDoor.lays166_ren) { YtldhmfkojaekfaaGreatDoor.lays166 with } YtldhmfkojaekfaaGreatDoor.Builder_Extra_166.toX72 b w c0).mono ?_
    rintro e w' ⟨rfl, rfl⟩
    exact ⟨rfl, ⟨v, hb, ho⟩, Below.refl _ _, Lib.OthersKept.refl _ _ _, rfl⟩
theorem Tryz.info_u8p : (Tryz.prog.info? 5).map (fun i => (i.zero, i.size, i.bytes)) = some (some (.int .u8 0), 1, 1) := by kernel_rfl
theorem prn_after {b : Nat} {many : Bool} {n : Nat} {xs : List Value} {p v : Value} {w1 w2 : World} (hbk : w1.heap[b]? = some (.cells #[p, v, .bool many] 76)) (hown : w1.ownsRow (b + 1) 5 1 v n xs) (hg : w1.grownBy w2 v.ownBlock) :
    w2.heap[b]? = some (.cells #[p, v, .bool many] 76) ∧ w2.cell? ⟨b, 1, none⟩ = some v ∧ w2.frozen? ⟨b, 1, none⟩ = false := by
  have hlt := (Array.getElem?_eq_some_iff.1 hbk).1
  have hne : v.ownBlock ≠ some b := fun e => by have := (hown.lt b e).1; omega
  have hb2 := (hg.block b hlt (fun e => hne e.symm)).trans hbk
  exact ⟨hb2, by rw [Lib.cell_of_heap hb2]; rfl, Lib.frozen_of_heap hb2 1⟩
theorem byteCells_one (c : UInt8) : Lib.byteCells [c] = [.int .u8 (c.toNat : Nat)] := rfl
set_option maxHeartbeats 4000000 in
theorem writeByteP (b : Nat) (many : Bool) (l : List UInt8) (c : UInt8) (w : World) (h : Prn b many l w) (hlen : l.length + 1 ≤ 140737488355328) :
    Calls Tryz.prog 33 #[.pointer (some ⟨b, 0, none⟩), .int .u8 (c.toNat : Nat)] w (PrnPost .nilIface b many (l ++ [c]) w) := by
  have HCC := Lib.hid (copyCheck_prn b many l w h)
  have hlt := h.lt
  clear h
  go_enter Tryz.func33, Tryz.ntmps33
  go_wp2_with fail
  (with_reducible refine HCC.out.mono ?_)
  rintro e w1 ⟨rfl, ⟨v, hbk, hown⟩, hb1, hk1, hz1⟩
  have c0 : w1.cell? ⟨b, 0, none⟩ = some (.pointer (some ⟨b, 0, none⟩)) := by rw [Lib.cell_of_heap hbk]; rfl
  have c1 : w1.cell? ⟨b, 1, none⟩ = some v := by rw [Lib.cell_of_heap hbk]; rfl
  have HBK := Lib.hid hbk
  have HOW := Lib.hid hown
  have HB1 := Lib.hid hb1
  have HK1 := Lib.hid hk1
  have HZ1 := Lib.hid hz1
  clear hbk hown hb1 hk1 hz1 HCC
  go_wp2_with (at_builtin; refine Gx.wpList_push w1 rfl (.tmp 11) (.tmp 13) 72 rfl (b + 1) 5 (.int .u8 0) 1 1 Tryz.underlying72 Tryz.info_u8p rfl (by decide) v l.length (Lib.byteCells l) [.int .u8 (c.toNat : Nat)] _ rfl rfl HOW.out rfl rfl (fun u hu => by rw [List.mem_singleton.1 hu]; rfl) (by omega) (by omega) (by have := HZ1.out; omega) ?_; intro v' w2 hown' hg' _ _; obtain ⟨ao, cc, rfl⟩ := own_form hown'; have hx := prn_after HBK.out HOW.out hg'; obtain ⟨hb2, d1, f1⟩ := hx)
  have hb3 : (w2.setCell ⟨b, 1, none⟩ (.slice ao (l.length + 1) cc)).heap[b]? = some (.cells #[.pointer (some ⟨b, 0, none⟩), .slice ao (l.length + 1) cc, .bool many] 76) := by simp [World.setCell, Array.getElem?_modify, hb2]
  have ho3 : (w2.setCell ⟨b, 1, none⟩ (.slice ao (l.length + 1) cc)).ownsRow (b + 1) 5 1 (.slice ao (l.length + 1) cc) (l.length + 1) (Lib.byteCells l ++ [.int .u8 (c.toNat : Nat)]) := hown'.kept (row := some b) ⟨rfl, rfl, rfl, by simp [World.setCell], fun k _ hk => Below.heap_setCell _ _ _ _ (fun e => hk (by simp [e]))⟩ (by
      cases hv : Value.ownBlock (.slice ao (l.length + 1) cc) with
      | none => exact .inl rfl
      | some g => exact .inr (fun e => by have := (hown'.lt g hv).1; have := Option.some.inj e; omega))
  have HF : Hid (PrnPost .nilIface b many (l ++ [c]) w (.returned .nilIface) (w2.setCell ⟨b, 1, none⟩ (.slice ao (l.length + 1) cc))) := Lib.hid ⟨rfl, ⟨_, _, .inr rfl, hb3, by rw [List.length_append, Lib.byteCells_append]; exact ho3⟩,
    (HB1.out.grown hg' (by have := HZ1.out; omega) (fun k e => by have := (HOW.out.lt k e).1; omega)).setCell (p := ⟨b, 1, none⟩) (Nat.le_refl _) _,
    (HK1.out.grown hg' (Lib.ownsRow_kind HOW.out)).setCell ⟨b, 1, none⟩ rfl _, by have := hg'.size; have := HZ1.out; simp [World.setCell]; omega⟩
  clear hb2 hb3 ho3 hown' hg' HBK HOW HB1 HK1
  try go_wp2_with fail
  try go_ret
  exact HF.out
set_option maxHeartbeats 4000000 in
theorem writeStrP (b : Nat) (many : Bool) (l : List UInt8) (s : ByteArray) (w : World) (h : Prn b many l w) (hlen : l.length + s.size ≤ 140737488355328) :
    Calls Tryz.prog 61 #[.pointer (some ⟨b, 0, none⟩), .string s] w (PrnPost (.tuple #[.int .i64 s.size, .nilIface]) b many (l ++ s.data.toList) w) := by
  have HCC := Lib.hid (copyCheck_prn b many l w h)
  have hlt := h.lt
  obtain ⟨i0, hi, hz0, hz1, hz2⟩ := info_parts Tryz.info_u8p
  clear h
  go_enter Tryz.func61, Tryz.ntmps61
  go_wp2_with fail
  (with_reducible refine HCC.out.mono ?_)
  rintro e w1 ⟨rfl, ⟨v, hbk, hown⟩, hb1, hk1, hz1'⟩
  have c0 : w1.cell? ⟨b, 0, none⟩ = some (.pointer (some ⟨b, 0, none⟩)) := by rw [Lib.cell_of_heap hbk]; rfl
  have c1 : w1.cell? ⟨b, 1, none⟩ = some v := by rw [Lib.cell_of_heap hbk]; rfl
  have HBK := Lib.hid hbk
  have HOW := Lib.hid hown
  have HB1 := Lib.hid hb1
  have HK1 := Lib.hid hk1
  have HZ1 := Lib.hid hz1'
  clear hbk hown hb1 hk1 hz1' HCC
  go_wp2_with (at_builtin; refine Lib.wpList_append_own_string _ rfl _ _ 72 9 rfl (b + 1) 5 i0 Tryz.underlying72 Tryz.underlying9 hi hz0 hz1 hz2 v l.length (Lib.byteCells l) rfl HOW.out s rfl (by unfold maxLen; omega) (by omega) (by have := HZ1.out; omega) ?_; intro v' w2 hown' hg' _; obtain ⟨ao, cc, rfl⟩ := own_form hown'; have hx := prn_after HBK.out HOW.out hg'; obtain ⟨hb2, d1, f1⟩ := hx)
  have hb3 : (w2.setCell ⟨b, 1, none⟩ (.slice ao (l.length + s.size) cc)).heap[b]? = some (.cells #[.pointer (some ⟨b, 0, none⟩), .slice ao (l.length + s.size) cc, .bool many] 76) := by simp [World.setCell, Array.getElem?_modify, hb2]
  have ho3 : (w2.setCell ⟨b, 1, none⟩ (.slice ao (l.length + s.size) cc)).ownsRow (b + 1) 5 1 (.slice ao (l.length + s.size) cc) (l.length + s.size) (Lib.byteCells l ++ Lib.strCells s) := hown'.kept (row := some b) ⟨rfl, rfl, rfl, by simp [World.setCell], fun k _ hk => Below.heap_setCell _ _ _ _ (fun e => hk (by simp [e]))⟩ (by
      cases hv : Value.ownBlock (.slice ao (l.length + s.size) cc) with
      | none => exact .inl rfl
      | some g => exact .inr (fun e => by have := (hown'.lt g hv).1; have := Option.some.inj e; omega))
  have HF : Hid (PrnPost (.tuple #[.int .i64 s.size, .nilIface]) b many (l ++ s.data.toList) w (.returned (.tuple #[.int .i64 s.size, .nilIface])) (w2.setCell ⟨b, 1, none⟩ (.slice ao (l.length + s.size) cc))) := Lib.hid ⟨rfl, ⟨_, _, .inr rfl, hb3, by
      rw [List.length_append, Lib.byteCells_append, ← Lib.size_eq]; exact ho3⟩,
    (HB1.out.grown hg' (by have := HZ1.out; omega) (fun k e => by have := (HOW.out.lt k e).1; omega)).setCell (p := ⟨b, 1, none⟩) (Nat.le_refl _) _,
    (HK1.out.grown hg' (Lib.ownsRow_kind HOW.out)).setCell ⟨b, 1, none⟩ rfl _, by have := hg'.size; have := HZ1.out; simp [World.setCell]; omega⟩
  clear hb2 hb3 ho3 hown' hg' HBK HOW HB1 HK1
  try go_wp2_with fail
  try go_ret2
  exact HF.out
set_option maxHeartbeats 2000000 in
theorem builtP (b : Nat) (many : Bool) (l : List UInt8) (w : World) (h : Prn b many l w) (h0 : l ≠ []) :
    Calls Tryz.prog 34 #[.pointer (some ⟨b, 0, none⟩)] w fun e w' => e = .returned (.string ⟨l.toArray⟩) ∧ Below b w w' := by
  obtain ⟨p, v, hp, hbk, hown⟩ := h.ex
  have hl0 : l.length ≠ 0 := by simpa using h0
  obtain ⟨g, cap, cur, rfl, hbg, hg, hnc, hcm, hcs, htake⟩ : ∃ g cap cur, v = .slice (some ⟨g, 0, none⟩) l.length cap ∧ b + 1 ≤ g ∧ w.heap[g]? = some (.cells cur 5 (0, 0)) ∧ l.length ≤ cap ∧ cap ≤ maxLen ∧ cur.size = cap * 1 ∧ cur.toList.take (l.length * 1) = Lib.byteCells l := by
    rcases hown.2 with ⟨_, hz⟩ | ⟨g, cap, cur, hv, r⟩
    · exact absurd hz hl0
    · exact ⟨g, cap, cur, hv, r⟩
  have c1 : w.drew.cell? ⟨b, 1, none⟩ = some (.slice (some ⟨g, 0, none⟩) l.length cap) := by
    have : w.drew.heap[b]? = some (.cells #[p, .slice (some ⟨g, 0, none⟩) l.length cap, .bool many] 76) := hbk
    rw [Lib.cell_of_heap this]; rfl
  have c1' : w.cell? ⟨b, 1, none⟩ = some (.slice (some ⟨g, 0, none⟩) l.length cap) := by rw [Lib.cell_of_heap hbk]; rfl
  have hSD : (Builtin.unsafeSliceData_ #[72] 106 #[.slice (some ⟨g, 0, none⟩) l.length cap]).run Tryz.prog w.drew = .ok (.pointer (some ⟨g, 0, none⟩)) w.drew :=
    Lib.run_unsafeSliceData_row _ _ _ _ _ _ (by omega)
  have hUS : (Builtin.unsafeString_ #[106, 3] 9 #[.pointer (some ⟨g, 0, none⟩), .int .i64 l.length]).run Tryz.prog w.drew = .ok (.string ⟨l.toArray⟩) (w.drew.freeze ⟨g, 0, none⟩ l.length) := by
    refine Lib.run_unsafeString_row w.drew 106 3 9 5 Tryz.underlying106 (by kernel_rfl) g cur.size (by have hg' : w.drew.heap[g]? = some (.cells cur 5 (0, 0)) := hg; simp [World.shape?, hg']) l h0 (by omega) (by unfold maxLen at hcm; omega) ?_
    intro j x hx
    have := hown.cells (g := g) rfl j (.int .u8 x.toNat) (by simp [Lib.byteCells, hx])
    exact this
  have HB : Hid (Below b w (w.drew.freeze ⟨g, 0, none⟩ l.length)) := Lib.hid (Lib.below_freeze (Below.drew (Below.refl b w)) (p := ⟨g, 0, none⟩) (show b ≤ g by omega) _)
  clear hg hnc hcm hcs htake hbk hown h
  go_enter Tryz.func34, Tryz.ntmps34
  go_wp2
  go_region
  all_goals (go_wp2; go_ret; exact ⟨rfl, HB.out⟩)
end Go.Proofs.YtldhmfkojaekfaaGreatDoor
namespace Go.Proofs.YtldhmfkojaekfaaGreatDoor
open Go.RowKit Gx

/-- a value -/
inductive V where
  | mk (k n f : Int) (s : ByteArray) (l : List V) (e : List (ByteArray × V))
namespace V
def k : V → Int | .mk k _ _ _ _ _ => k
def n : V → Int | .mk _ n _ _ _ _ => n
def f : V → Int | .mk _ _ f _ _ _ => f
def s : V → ByteArray | .mk _ _ _ s _ _ => s
def l : V → List V | .mk _ _ _ _ l _ => l
def e : V → List (ByteArray × V) | .mk _ _ _ _ _ e => e
def zero : V := .mk 0 0 0 ⟨#[]⟩ [] []
instance : Inhabited V := ⟨zero⟩
theorem eta (v : V) : v = .mk v.k v.n v.f v.s v.l v.e := by cases v; rfl
theorem ext' {v w : V} (h1 : v.k = w.k) (h2 : v.n = w.n) (h3 : v.f = w.f) (h4 : v.s = w.s) (h5 : v.l = w.l) (h6 : v.e = w.e) : v = w := by
  rw [eta v, eta w, h1, h2, h3, h4, h5, h6]
theorem lt_l {v x : V} (h : x ∈ v.l) : SizeOf.sizeOf x < SizeOf.sizeOf v := by
  cases v with | mk k n f s l e =>
  have := List.sizeOf_lt_of_mem (show x ∈ l from h)
  simp; omega
theorem lt_e {v : V} {x : ByteArray × V} (h : x ∈ v.e) : SizeOf.sizeOf x.2 < SizeOf.sizeOf v := by
  cases v with | mk k n f s l e =>
  have := List.sizeOf_lt_of_mem (show x ∈ e from h)
  obtain ⟨a, b⟩ := x
  simp at this ⊢; omega
theorem ind {P : V → Prop} (h : ∀ v : V, (∀ x ∈ v.l, P x) → (∀ x ∈ v.e, P x.2) → P v) : ∀ v, P v := by
  have : ∀ n (v : V), SizeOf.sizeOf v ≤ n → P v := by
    intro n
    induction n with
    | zero => intro v hv; cases v; simp at hv
    | succ n ih => exact fun v hv => h v (fun x hx => ih x (by have := lt_l hx; omega)) (fun x hx => ih x.2 (by have := lt_e hx; omega))
  exact fun v => this _ v (Nat.le_refl _)
/-- its own numbers are such, its text is not too long -/
structure wf (v : V) : Prop where
  k0 : -9223372036854775808 ≤ v.k
  k1 : v.k ≤ 9223372036854775807
  n0 : -9223372036854775808 ≤ v.n
  n1 : v.n ≤ 9223372036854775807
  f0 : 0 ≤ v.f
  f1 : v.f ≤ 18446744073709551615
  s1 : v.s.size ≤ 140737488351232
theorem wf_zero : zero.wf := ⟨by decide, by decide, by decide, by decide, by decide, by decide, by decide⟩
end V
/-- a value, and where its parts lie -/
structure Loc where
  v : V
  ad : Option Addr
  cap : Nat
  bd : Option Addr
  dap : Nat
instance : Inhabited Loc := ⟨⟨.zero, none, 0, none, 0⟩⟩
def Loc.sl (q : Loc) : Value := .slice q.ad q.v.l.length q.cap
def Loc.se (q : Loc) : Value := .slice q.bd q.v.e.length q.dap
/-- its cells -/
def Loc.cs (q : Loc) : List Value := [.int .i64 q.v.k, .int .i64 q.v.n, .int .u64 q.v.f, .string q.v.s, .slice q.ad q.v.l.length q.cap, .slice q.bd q.v.e.length q.dap]
/-- as it stands -/
def Loc.val (q : Loc) : Value := .agg #[.int .i64 q.v.k, .int .i64 q.v.n, .int .u64 q.v.f, .string q.v.s, .slice q.ad q.v.l.length q.cap, .slice q.bd q.v.e.length q.dap]
structure CellsAt (w : World) (b o : Nat) (q : Loc) : Prop where
  c0 : w.cell? ⟨b, o, none⟩ = some (.int .i64 q.v.k)
  c1 : w.cell? ⟨b, o + 1, none⟩ = some (.int .i64 q.v.n)
  c2 : w.cell? ⟨b, o + 2, none⟩ = some (.int .u64 q.v.f)
  c3 : w.cell? ⟨b, o + 3, none⟩ = some (.string q.v.s)
  c4 : w.cell? ⟨b, o + 4, none⟩ = some (.slice q.ad q.v.l.length q.cap)
  c5 : w.cell? ⟨b, o + 5, none⟩ = some (.slice q.bd q.v.e.length q.dap)
theorem CellsAt.through {w w' : World} {b o : Nat} {q : Loc} (h : CellsAt w b o q) (hb : w'.heap[b]? = w.heap[b]?) : CellsAt w' b o q := by
  have hq : ∀ o, w'.cell? ⟨b, o, none⟩ = w.cell? ⟨b, o, none⟩ := fun o => World.cell?_of_block hb
  exact ⟨(hq _).trans h.c0, (hq _).trans h.c1, (hq _).trans h.c2, (hq _).trans h.c3, (hq _).trans h.c4, (hq _).trans h.c5⟩
/-- a value in a block of its own -/
theorem CellsAt.box {w : World} {b : Nat} {q : Loc} {ty : TypeId} (h : w.heap[b]? = some (.cells q.cs.toArray ty)) : CellsAt w b 0 q := by
  constructor <;> simp [World.cell?, h, Loc.cs]
/-- the parts of a list, as entries -/
def lp (l : List V) : List (ByteArray × V) := l.map fun x => (⟨#[]⟩, x)
theorem lp_len (l : List V) : (lp l).length = l.length := by simp [lp]
theorem lp_get {l : List V} {i : Nat} {x : V} (h : l[i]? = some x) : (lp l)[i]? = some (⟨#[]⟩, x) := by simp [lp, h]
theorem lp_get' {l : List V} {i : Nat} {x : ByteArray × V} (h : (lp l)[i]? = some x) : x.1 = ⟨#[]⟩ ∧ l[i]? = some x.2 := by
  simp only [lp, List.getElem?_map, Option.map_eq_some_iff] at h
  obtain ⟨a, h1, rfl⟩ := h
  exact ⟨rfl, h1⟩
theorem lp_inj {l m : List V} (h : lp l = lp m) : l = m := by
  have := congrArg (List.map Prod.snd) h
  simpa [lp, Function.comp_def] using this

/-- how wide an element is; where its value begins -/
def st (t : Bool) : Nat := if t then 7 else 6
def fd (t : Bool) : Nat := if t then 1 else 0
/-- parts (t: entries) in memory, in blocks of B's alone -/
inductive RowAt (w : World) (B : Nat → Prop) : Bool → List (ByteArray × V) → Value → Prop
  | nil (t : Bool) (ad : Option Addr) (cap : Nat) : RowAt w B t [] (.slice ad 0 cap)
  | row (t : Bool) (xs : List (ByteArray × V)) (blk off cap : Nat) (sl se : Nat → Value) (hne : xs ≠ []) (hn : xs.length * (st t * 16 - 8) ≤ 140737488351232) (hB : B blk) (hlt : blk < w.heap.size)
    (hk : t = true → ∀ i x, xs[i]? = some x → w.cell? ⟨blk, off + i * 7, none⟩ = some (.string x.1) ∧ x.1.size ≤ 140737488351232)
    (hc : ∀ i x, xs[i]? = some x → x.2.wf ∧ w.cell? ⟨blk, off + i * st t + fd t, none⟩ = some (.int .i64 x.2.k) ∧ w.cell? ⟨blk, off + i * st t + fd t + 1, none⟩ = some (.int .i64 x.2.n) ∧
      w.cell? ⟨blk, off + i * st t + fd t + 2, none⟩ = some (.int .u64 x.2.f) ∧ w.cell? ⟨blk, off + i * st t + fd t + 3, none⟩ = some (.string x.2.s) ∧
      w.cell? ⟨blk, off + i * st t + fd t + 4, none⟩ = some (sl i) ∧ w.cell? ⟨blk, off + i * st t + fd t + 5, none⟩ = some (se i))
    (hl : ∀ i x, xs[i]? = some x → RowAt w B false (lp x.2.l) (sl i)) (he : ∀ i x, xs[i]? = some x → RowAt w B true x.2.e (se i)) :
    RowAt w B t xs (.slice (some ⟨blk, off, none⟩) xs.length cap)
/-- a value whose parts lie in memory -/
structure VAt (w : World) (B : Nat → Prop) (q : Loc) : Prop where
  wf : q.v.wf
  l : RowAt w B false (lp q.v.l) (.slice q.ad q.v.l.length q.cap)
  e : RowAt w B true q.v.e (.slice q.bd q.v.e.length q.dap)

theorem RowAt.through {w w' : World} {B C : Nat → Prop} {t : Bool} {xs : List (ByteArray × V)} {v : Value} (h : RowAt w B t xs v) (hs : w.heap.size ≤ w'.heap.size)
    (hb : ∀ b, B b → b < w.heap.size → w'.heap[b]? = w.heap[b]?) (hC : ∀ b, B b → b < w.heap.size → C b) : RowAt w' C t xs v := by
  induction h with
  | nil t ad cap => exact .nil t ad cap
  | row t xs blk off cap sl se hne hn hB hlt hk hc hl he ihl ihe =>
    have hq : ∀ o, w'.cell? ⟨blk, o, none⟩ = w.cell? ⟨blk, o, none⟩ := fun o => World.cell?_of_block (hb blk hB hlt)
    refine .row t xs blk off cap sl se hne hn (hC _ hB hlt) (Nat.lt_of_lt_of_le hlt hs) (fun ht i x hi => ?_) (fun i x hi => ?_) ihl ihe
    · rw [hq]; exact hk ht i x hi
    · rw [hq, hq, hq, hq, hq, hq]; exact hc i x hi
theorem RowAt.weak {w : World} {B C : Nat → Prop} {t : Bool} {xs : List (ByteArray × V)} {v : Value} (h : RowAt w B t xs v) (hC : ∀ b, B b → b < w.heap.size → C b) : RowAt w C t xs v :=
  h.through (Nat.le_refl _) (fun _ _ _ => rfl) hC
theorem RowAt.keep {w w' : World} {B : Nat → Prop} {t : Bool} {xs : List (ByteArray × V)} {v : Value} (h : RowAt w B t xs v) (hb : Below w.heap.size w w') : RowAt w' B t xs v :=
  h.through hb.size (fun b _ hl => hb.block b hl) (fun _ h _ => h)
theorem RowAt.grow {w w' : World} {B : Nat → Prop} {t : Bool} {xs : List (ByteArray × V)} {v : Value} {row : Option Nat} (h : RowAt w B t xs v) (hg : w.grownBy w' row) (hr : ∀ b, row = some b → ¬ B b) : RowAt w' B t xs v :=
  h.through hg.size (fun b hB hl => hg.block b hl (fun e => hr b e.symm hB)) (fun _ h _ => h)
theorem RowAt.len {w : World} {B : Nat → Prop} {t : Bool} {xs : List (ByteArray × V)} {v : Value} (h : RowAt w B t xs v) : ∃ ad cap, v = .slice ad xs.length cap := by
  cases h with
  | nil t ad cap => exact ⟨ad, cap, rfl⟩
  | row t xs blk off cap => exact ⟨_, cap, rfl⟩
theorem RowAt.bound {w : World} {B : Nat → Prop} {t : Bool} {xs : List (ByteArray × V)} {v : Value} (h : RowAt w B t xs v) : xs.length * (st t * 16 - 8) ≤ 140737488351232 := by
  cases h with
  | nil t ad cap => simp
  | row t xs blk off cap sl se hne hn => exact hn
theorem RowAt.llen {w : World} {B : Nat → Prop} {l : List V} {v : Value} (h : RowAt w B false (lp l) v) : ∃ ad cap, v = .slice ad l.length cap := by
  have := h.len; rw [lp_len] at this; exact this
/-- an element of a list -/
theorem RowAt.elem {w : World} {B : Nat → Prop} {l : List V} {ad : Option Addr} {n cap : Nat} (h : RowAt w B false (lp l) (.slice ad n cap)) (hl : 0 < l.length) : ∃ b off, ad = some ⟨b, off, none⟩ ∧ B b ∧ b < w.heap.size ∧
    ∀ i x, l[i]? = some x → ∃ q : Loc, q.v = x ∧ VAt w B q ∧ CellsAt w b (off + i * 6) q := by
  generalize hx : lp l = xs at h
  generalize hv : Value.slice ad n cap = v at h
  generalize ht : false = t at h
  cases h with
  | nil t ad cap => have := congrArg List.length hx; rw [lp_len, List.length_nil] at this; omega
  | row t xs blk off cap sl se hne hn hB hlt hk hc hl he =>
    subst hx
    subst ht
    simp only [Value.slice.injEq] at hv
    obtain ⟨rfl, rfl, rfl⟩ := hv
    refine ⟨blk, off, rfl, hB, hlt, fun i x hi => ?_⟩
    obtain ⟨h0, h1, h2, h3, h4, h5, h6⟩ := hc i _ (lp_get hi)
    have hl' := hl i _ (lp_get hi)
    have he' := he i _ (lp_get hi)
    obtain ⟨a1, c1, e1⟩ := hl'.llen
    obtain ⟨a2, c2, e2⟩ := he'.len
    rw [e1] at h5 hl'
    rw [e2] at h6 he'
    exact ⟨⟨x, a1, c1, a2, c2⟩, rfl, ⟨h0, hl', he'⟩, h1, h2, h3, h4, h5, h6⟩
/-- an entry of a table -/
theorem RowAt.entry {w : World} {B : Nat → Prop} {l : List (ByteArray × V)} {ad : Option Addr} {n cap : Nat} (h : RowAt w B true l (.slice ad n cap)) (hl : 0 < l.length) : ∃ b off, ad = some ⟨b, off, none⟩ ∧ B b ∧ b < w.heap.size ∧
    ∀ i x, l[i]? = some x → x.1.size ≤ 140737488351232 ∧ w.cell? ⟨b, off + i * 7, none⟩ = some (.string x.1) ∧ ∃ q : Loc, q.v = x.2 ∧ VAt w B q ∧ CellsAt w b (off + i * 7 + 1) q := by
  generalize hv : Value.slice ad n cap = v at h
  generalize ht : true = t at h
  cases h with
  | nil t ad cap => simp at hl
  | row t xs blk off cap sl se hne hn hB hlt hk hc hl he =>
    subst ht
    simp only [Value.slice.injEq] at hv
    obtain ⟨rfl, rfl, rfl⟩ := hv
    refine ⟨blk, off, rfl, hB, hlt, fun i x hi => ?_⟩
    obtain ⟨h0, h1, h2, h3, h4, h5, h6⟩ := hc i _ hi
    obtain ⟨k1, k2⟩ := hk rfl i x hi
    have hl' := hl i _ hi
    have he' := he i _ hi
    obtain ⟨a1, c1, e1⟩ := hl'.llen
    obtain ⟨a2, c2, e2⟩ := he'.len
    rw [e1] at h5 hl'
    rw [e2] at h6 he'
    exact ⟨k2, k1, ⟨x.2, a1, c1, a2, c2⟩, rfl, ⟨h0, hl', he'⟩, h1, h2, h3, h4, h5, h6⟩
/-- the cells of an entry, one by one -/
theorem CellsAt.seven {w : World} {b o : Nat} {q : Loc} (h : CellsAt w b (o + 1) q) : w.cell? ⟨b, o + 1, none⟩ = some (.int .i64 q.v.k) ∧ w.cell? ⟨b, o + 2, none⟩ = some (.int .i64 q.v.n) ∧ w.cell? ⟨b, o + 3, none⟩ = some (.int .u64 q.v.f) ∧
    w.cell? ⟨b, o + 4, none⟩ = some (.string q.v.s) ∧ w.cell? ⟨b, o + 5, none⟩ = some (.slice q.ad q.v.l.length q.cap) ∧ w.cell? ⟨b, o + 6, none⟩ = some (.slice q.bd q.v.e.length q.dap) := h.casesOn fun a b c d e f => ⟨a, b, c, d, e, f⟩
theorem RowAt.lbound {w : World} {B : Nat → Prop} {l : List V} {v : Value} (h : RowAt w B false (lp l) v) : l.length * 88 ≤ 140737488351232 := by
  have := h.bound; rw [lp_len] at this; simpa [st] using this
theorem RowAt.ebound {w : World} {B : Nat → Prop} {l : List (ByteArray × V)} {v : Value} (h : RowAt w B true l v) : l.length * 104 ≤ 140737488351232 := by
  have := h.bound; simpa [st] using this
variable {w w' : World} {B C : Nat → Prop} {q : Loc}
theorem VAt.through (h : VAt w B q) (hs : w.heap.size ≤ w'.heap.size) (hb : ∀ b, B b → b < w.heap.size → w'.heap[b]? = w.heap[b]?) (hC : ∀ b, B b → b < w.heap.size → C b) : VAt w' C q :=
  ⟨h.wf, h.l.through hs hb hC, h.e.through hs hb hC⟩
theorem VAt.weak (h : VAt w B q) (hC : ∀ b, B b → b < w.heap.size → C b) : VAt w C q := ⟨h.wf, h.l.weak hC, h.e.weak hC⟩
theorem VAt.keep (h : VAt w B q) (hb : Below w.heap.size w w') : VAt w' B q := ⟨h.wf, h.l.keep hb, h.e.keep hb⟩
theorem VAt.grow {row : Option Nat} (h : VAt w B q) (hg : w.grownBy w' row) (hr : ∀ b, row = some b → ¬ B b) : VAt w' B q := ⟨h.wf, h.l.grow hg hr, h.e.grow hg hr⟩
theorem VAt.zero (w : World) (B : Nat → Prop) (a b : Option Addr) (c d : Nat) : VAt w B ⟨.zero, a, c, b, d⟩ := ⟨V.wf_zero, .nil _ _ _, .nil _ _ _⟩
end Go.Proofs.YtldhmfkojaekfaaGreatDoor
namespace Go.Proofs.YtldhmfkojaekfaaGreatDoor
open Go.RowKit Go.Shelf Gx
attribute [local go_sem] Oper.semAt_some
set_option maxRecDepth 100000

/-- blocks below n₀, M left out -/
def Bw (n₀ M : Nat) (b : Nat) : Prop := b < n₀ ∧ b ≠ M
/-- what a round keeps -/
structure KeM (n₀ M : Nat) (W W' : World) : Prop where
  size : W.heap.size ≤ W'.heap.size
  block : ∀ k, Bw n₀ M k → k < W.heap.size → W'.heap[k]? = W.heap[k]?
theorem KeM.refl (n₀ M : Nat) (W : World) : KeM n₀ M W W := ⟨Nat.le_refl _, fun _ _ _ => rfl⟩
theorem KeM.trans {n₀ M : Nat} {A B C : World} (h : KeM n₀ M A B) (k : KeM n₀ M B C) : KeM n₀ M A C :=
  ⟨Nat.le_trans h.size k.size, fun i hi hl => (k.block i hi (Nat.lt_of_lt_of_le hl h.size)).trans (h.block i hi hl)⟩
theorem KeM.grow {n₀ M : Nat} {A B : World} {row : Option Nat} (hg : A.grownBy B row) (hr : ∀ k, row = some k → ¬ Bw n₀ M k) : KeM n₀ M A B :=
  ⟨hg.size, fun i hi hl => hg.block i hl (fun e => hr i e.symm hi)⟩
theorem KeM.alloc (n₀ M : Nat) (A : World) (o : Obj) : KeM n₀ M A (A.alloc o) := ⟨by simp, fun _ _ hl => Below.heap_alloc A o _ hl⟩
theorem KeM.put {n₀ M : Nat} {w : World} (hn : n₀ ≤ w.heap.size) (W : World) (l : Nat) (o o' : Obj) (hl : w.heap.size ≤ l) (h : W.heap[l]? = some o) (_ : o.isCells = false) (_ : o.isWalk = false) : KeM n₀ M W (W.putObj l o') :=
  .grow (grownBy_putObj' W l o') (fun k e hb => by cases e; have := hb.1; omega)
theorem KeM.cell {n₀ M : Nat} {A B : World} (h : KeM n₀ M A B) {b o : Nat} (hb : Bw n₀ M b) (hl : b < A.heap.size) : B.cell? ⟨b, o, none⟩ = A.cell? ⟨b, o, none⟩ := World.cell?_of_block (h.block b hb hl)

/-- values that lie in blocks below n₀, M left out -/
abbrev LocAt (w : World) (n₀ M : Nat) := { x : Loc // VAt w (Bw n₀ M) x }
/-- the parts of a value: those of its list, and those of its entries -/
def V.parts (v : V) : List V := v.l ++ v.e.map Prod.snd

/-- they lie there, one by one -/
def LsAt (w : World) (n₀ M : Nat) (q : Loc) (ls : List (LocAt w n₀ M)) : Prop := ls.map (·.1.v) = q.v.l ∧
  ∀ i x, ls[i]? = some x → ∃ b off, q.ad = some ⟨b, off, none⟩ ∧ Bw n₀ M b ∧ b < w.heap.size ∧ CellsAt w b (off + i * 6) x.1
def EsAt (w : World) (n₀ M : Nat) (q : Loc) (es : List (LocAt w n₀ M)) : Prop := es.map (·.1.v) = q.v.e.map Prod.snd ∧
  ∀ i x, es[i]? = some x → ∃ b off key, q.bd = some ⟨b, off, none⟩ ∧ Bw n₀ M b ∧ b < w.heap.size ∧ w.cell? ⟨b, off + i * 7, none⟩ = some (.string key) ∧ CellsAt w b (off + i * 7 + 1) x.1
theorem locs_of {w : World} {n₀ M : Nat} {q : Loc} (h : VAt w (Bw n₀ M) q) : ∃ ls es, LsAt w n₀ M q ls ∧ EsAt w n₀ M q es := by
  have key : ∀ {α : Type} (l : List α) (p : α → V) (Q : Nat → LocAt w n₀ M → Prop), (∀ i x, l[i]? = some x → ∃ y : LocAt w n₀ M, y.1.v = p x ∧ Q i y) → ∃ ys : List (LocAt w n₀ M), ys.map (·.1.v) = l.map p ∧ ∀ i y, ys[i]? = some y → Q i y := by
    intro α l p Q hq
    induction l generalizing Q with
    | nil => exact ⟨[], rfl, fun i y h => by simp at h⟩
    | cons a l ih =>
      obtain ⟨y, hy, hQ⟩ := hq 0 a rfl
      obtain ⟨ys, h1, h2⟩ := ih (fun i y => Q (i + 1) y) (fun i x h => hq (i + 1) x (by simpa using h))
      refine ⟨y :: ys, by simp [hy, h1], fun i z hz => ?_⟩
      cases i with
      | zero => simp at hz; subst hz; exact hQ
      | succ i => exact h2 i z (by simpa using hz)
  obtain ⟨ls, hl1, hl2⟩ := key q.v.l id (fun i x => ∃ b off, q.ad = some ⟨b, off, none⟩ ∧ Bw n₀ M b ∧ b < w.heap.size ∧ CellsAt w b (off + i * 6) x.1) (fun i x hi => by
    obtain ⟨b, off, e1, e2, e3, e4⟩ := RowAt.elem h.l (by have := (List.getElem?_eq_some_iff.1 hi).1; omega)
    obtain ⟨p, rfl, hv, c⟩ := e4 i x hi
    exact ⟨⟨p, hv⟩, rfl, b, off, e1, e2, e3, c⟩)
  obtain ⟨es, he1, he2⟩ := key q.v.e Prod.snd (fun i x => ∃ b off key, q.bd = some ⟨b, off, none⟩ ∧ Bw n₀ M b ∧ b < w.heap.size ∧ w.cell? ⟨b, off + i * 7, none⟩ = some (.string key) ∧ CellsAt w b (off + i * 7 + 1) x.1) (fun i x hi => by
    obtain ⟨b, off, e1, e2, e3, e4⟩ := RowAt.entry h.e (by have := (List.getElem?_eq_some_iff.1 hi).1; omega)
    obtain ⟨_, ck, p, hp, hv, c⟩ := e4 i x hi
    exact ⟨⟨p, hv⟩, hp, b, off, x.1, e1, e2, e3, ck, c⟩)
  exact ⟨ls, es, ⟨by simpa using hl1, hl2⟩, he1, he2⟩
theorem LsAt.len {w : World} {n₀ M : Nat} {q : Loc} {ls : List (LocAt w n₀ M)} (h : LsAt w n₀ M q ls) : ls.length = q.v.l.length := by have := congrArg List.length h.1; simpa using this
theorem EsAt.len {w : World} {n₀ M : Nat} {q : Loc} {es : List (LocAt w n₀ M)} (h : EsAt w n₀ M q es) : es.length = q.v.e.length := by have := congrArg List.length h.1; simpa using this

def PartsPost (q : Loc) (w : World) (e : Ending) (w' : World) : Prop :=
  e = .returned (.func (.func 55) #[] #[.pointer (some ⟨w.heap.size, 0, none⟩)]) ∧ w' = w.alloc (.cells #[.int .i64 q.v.k, .int .i64 q.v.n, .int .u64 q.v.f, .string q.v.s, .slice q.ad q.v.l.length q.cap, .slice q.bd q.v.e.length q.dap] 26)
set_option maxHeartbeats 1000000 in
theorem parts_any (q : Loc) (w : World) : Calls Tryz.prog 29 #[q.val] w (PartsPost q w) := by
  unfold Loc.val
  go_enter Tryz.func29, Tryz.ntmps29
  go_wp2_with fail
  try go_ret
  exact ⟨rfl, rfl⟩
end Go.Proofs.YtldhmfkojaekfaaGreatDoor
namespace Go.Proofs.YtldhmfkojaekfaaGreatDoor.Gx
open Go Go.RowKit

/-- the slice 'ad, xs.length, cap' reads as the numbers xs in the world w -/
structure Rd (k : IntKind) (w : World) (ad : Option Addr) (cap : Nat) (xs : List Int) : Prop where
  ncap : xs.length ≤ cap
  cap63 : cap ≤ 9223372036854775807
  wf : ∀ x ∈ xs, (Lit.int k x).wf = true
  none_ : ad = none → cap = 0
  at_ : ∀ a, ad = some a → 0 < xs.length → a.spot = none ∧ a.block < w.heap.size ∧ ∀ j, j < xs.length → w.cell? ⟨a.block, a.off + j, none⟩ = some (.int k (xs.getD j 0))

variable {k : IntKind} {w w' : World} {ad : Option Addr} {cap : Nat} {xs : List Int}

theorem Rd.keep (h : Rd k w ad cap xs) (hb : Below w.heap.size w w') : Rd k w' ad cap xs := by
  refine ⟨h.ncap, h.cap63, h.wf, h.none_, fun a ha hp => ?_⟩
  obtain ⟨h1, h2, h3⟩ := h.at_ a ha hp
  exact ⟨h1, Nat.lt_of_lt_of_le h2 hb.size, fun j hj => (hb.cell (p := ⟨a.block, a.off + j, none⟩) h2).trans (h3 j hj)⟩

theorem Rd.addr (h : Rd k w ad cap xs) (hp : 0 < xs.length) : ∃ b off, ad = some ⟨b, off, none⟩ ∧ b < w.heap.size ∧ ∀ j, j < xs.length → w.cell? ⟨b, off + j, none⟩ = some (.int k (xs.getD j 0)) := by
  cases ad with
  | none => have := h.none_ rfl; have := h.ncap; omega
  | some a =>
    obtain ⟨h1, h2, h3⟩ := h.at_ a rfl hp
    obtain ⟨b, off, spot⟩ := a
    simp only at h1
    subst h1
    exact ⟨b, off, rfl, h2, h3⟩

theorem getD_take (xs : List Int) (m j : Nat) (h : j < m) : (xs.take m).getD j 0 = xs.getD j 0 := by
  simp [List.getD, h]

/-- the first m of them -/
theorem Rd.front (h : Rd k w ad cap xs) (m : Nat) (hm : m ≤ xs.length) : Rd k w ad cap (xs.take m) := by
  have hl : (xs.take m).length = m := by simp; omega
  refine ⟨by rw [hl]; have := h.ncap; omega, h.cap63, fun x hx => h.wf x (List.mem_of_mem_take hx), h.none_, fun a ha hp => ?_⟩
  obtain ⟨h1, h2, h3⟩ := h.at_ a ha (by omega)
  refine ⟨h1, h2, fun j hj => ?_⟩
  rw [h3 j (by omega), getD_take xs m j (by omega)]

/-- none of them -/
theorem Rd.nil (k : IntKind) (w : World) (ad : Option Addr) (cap : Nat) (h1 : cap ≤ 9223372036854775807) (h2 : ad = none → cap = 0) : Rd k w ad cap [] :=
  ⟨by simp, h1, fun x hx => by simp at hx, h2, fun a _ hp => by simp at hp⟩

/-- what came in -/
theorem Rd.row {len : Nat} {zs : List Int} (h : IsRow k w ad len cap zs) : (zs.take len).length = len ∧ Rd k w ad cap (zs.take len) := by
  rcases h with ⟨rfl, rfl, rfl, rfl⟩ | ⟨x, rfl, hl, hm, hz, hc, hw⟩
  · exact ⟨rfl, Rd.nil _ _ _ _ (by omega) (fun _ => rfl)⟩
  · have hlen : (zs.take len).length = len := by simp; omega
    refine ⟨hlen, by omega, by unfold maxLen at hm; omega, fun y hy => hw y (List.mem_of_mem_take hy), fun h => by simp at h, fun a ha hp => ?_⟩
    obtain rfl := Option.some.inj ha
    have h0 := hc 0 (by omega)
    have hspot : x.spot = none := by
      have := World.cell?_spot h0
      simpa [Addr.add] using this
    obtain ⟨b, off, spot⟩ := x
    simp only at hspot
    subst hspot
    refine ⟨rfl, World.block_lt_of_cell? w ⟨b, off, none⟩ (by simpa [Addr.add] using h0), fun j hj => ?_⟩
    have := hc j (by omega)
    rw [Addr.add_lit] at this
    rw [this, getD_take zs len j (by omega)]

/-- what a call has made -/
theorem Rd.own {base : Nat} {e : TypeId} {v : Value} {n : Nat} (h : w.ownsRow base e 1 v n (xs.map (Value.int k))) (hw : ∀ x ∈ xs, (Lit.int k x).wf = true) :
    ∃ ad cap, v = .slice ad xs.length cap ∧ Rd k w ad cap xs := by
  have hn : xs.length = n := by have := h.1; simpa using this
  have hc := fun g => h.cells (g := g)
  rcases h.2 with ⟨rfl, rfl⟩ | ⟨g, cap, cur, rfl, hb, hg, hnc, hcm, _⟩
  · have : xs = [] := List.eq_nil_of_length_eq_zero hn
    subst this
    exact ⟨none, 0, rfl, Rd.nil _ _ _ _ (by omega) (fun _ => rfl)⟩
  · subst hn
    refine ⟨some ⟨g, 0, none⟩, cap, rfl, hnc, by unfold maxLen at hcm; omega, hw, fun h => by simp at h, fun a ha hp => ?_⟩
    obtain rfl := Option.some.inj ha
    refine ⟨rfl, (Array.getElem?_eq_some_iff.1 hg).1, fun j hj => ?_⟩
    have := hc g rfl j (.int k (xs.getD j 0)) (by simp [List.getD, List.getElem?_eq_getElem hj])
    rwa [Addr.add_lit] at this

/-- what a call has made lies in its own memory -/
theorem Rd.own' {base : Nat} {e : TypeId} {v : Value} {n : Nat} (h : w.ownsRow base e 1 v n (xs.map (Value.int k))) (hw : ∀ x ∈ xs, (Lit.int k x).wf = true) :
    ∃ ad cap, v = .slice ad xs.length cap ∧ Rd k w ad cap xs ∧ ∀ a, ad = some a → base ≤ a.block := by
  obtain ⟨ad, cap, rfl, hr⟩ := Rd.own h hw
  refine ⟨ad, cap, rfl, hr, fun a ha => ?_⟩
  subst ha
  exact (h.lt a.block rfl).1

/-- through a write to another row -/
theorem Rd.grown {row : Option Nat} (h : Rd k w ad cap xs) (hg : w.grownBy w' row) (hne : ∀ a, ad = some a → 0 < xs.length → some a.block ≠ row) : Rd k w' ad cap xs := by
  refine ⟨h.ncap, h.cap63, h.wf, h.none_, fun a ha hp => ?_⟩
  obtain ⟨h1, h2, h3⟩ := h.at_ a ha hp
  exact ⟨h1, Nat.lt_of_lt_of_le h2 hg.size, fun j hj => hg.cell (h3 j hj) (hne a ha hp)⟩

/-- what an append of such a slice asks -/
theorem Rd.src (h : Rd k w ad cap xs) : (xs.map (Value.int k)).length = xs.length * 1 ∧ (ad = none → xs.length = 0 ∧ cap = 0) ∧
    (∀ a, ad = some a → ∀ j u, (xs.map (Value.int k))[j]? = some u → w.cell? (a.add j) = some u) ∧ ∀ u ∈ xs.map (Value.int k), u.oneCell' = true := by
  refine ⟨by simp, fun e => ⟨by have := h.none_ e; have := h.ncap; omega, h.none_ e⟩, fun a ha j u hu => ?_, ints_oneCell k xs⟩
  have hj : j < xs.length := by
    have := (List.getElem?_eq_some_iff.1 hu).1
    simpa using this
  obtain ⟨h1, h2, h3⟩ := h.at_ a ha (by omega)
  obtain ⟨b, off, spot⟩ := a
  simp only at h1
  subst h1
  rw [Addr.add_lit, h3 j hj]
  simp [List.getElem?_eq_getElem hj] at hu
  simp [List.getD, List.getElem?_eq_getElem hj, hu]
end Go.Proofs.YtldhmfkojaekfaaGreatDoor.Gx
