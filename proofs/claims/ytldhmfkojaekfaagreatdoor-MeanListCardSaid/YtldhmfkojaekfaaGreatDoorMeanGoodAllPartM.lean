/-
  Values: trees, and how they lie in memory. No conditions.
  Plain law: an entry is found, dropped, put. No conditions.
  What a document's nodes mean, plainly. No conditions.
  Plain law: the solid tokens of a text; texts laid end to end. No conditions.
  Plain law: documents by their solid tokens: what the reader makes of them means so, and the other way round. No conditions but those that are named.
  The contract of num.Read. No conditions.
  The contract of float.digits. Condition: a bound on the length.
-/
import Derived.Below
import Derived.Laws.Externs
import Derived.Test.YtldhmfkojaekfaaGreatDoorProg
import Derived.Lib.IndexBytes
import Derived.WalkLawsBesides
import Derived.Deep.DeepFit
import Derived.Test.YtldhmfkojaekfaaGreatDoorMeanGoodAllPartL
set_option linter.unusedVariables false
namespace Go.Proofs.YtldhmfkojaekfaaGreatDoor
open Go.RowKit Gx
/-- a value -/
inductive V where
  | mk (k n f : Int) (s : ByteArray) (l : List V) (e : List (ByteArray × V))
namespace V
def k : V → Int | .mk k _ _ _ _ _ => k
def n : V → Int | .mk _ n _ _ _ _ => n
def f : V → Int | .mk _ _ f _ _ _ => f
def s : V → ByteArray | .mk _ _ _ s _ _ => s
def l : V → List V | .mk _ _ _ _ l _ => l
def e : V → List (ByteArray × V) | .mk _ _ _ _ _ e => e
def zero : V := .mk 0 0 0 ⟨#[]⟩ [] []
instance : Inhabited V := ⟨zero⟩
theorem eta (v : V) : v = .mk v.k v.n v.f v.s v.l v.e := by cases v; rfl
theorem ext' {v w : V} (h1 : v.k = w.k) (h2 : v.n = w.n) (h3 : v.f = w.f) (h4 : v.s = w.s) (h5 : v.l = w.l) (h6 : v.e = w.e) : v = w := by
  rw [eta v, eta w, h1, h2, h3, h4, h5, h6]
theorem lt_l {v x : V} (h : x ∈ v.l) : SizeOf.sizeOf x < SizeOf.sizeOf v := by
  cases v with | mk k n f s l e =>
  have := List.sizeOf_lt_of_mem (show x ∈ l from h)
  simp; omega
theorem lt_e {v : V} {x : ByteArray × V} (h : x ∈ v.e) : SizeOf.sizeOf x.2 < SizeOf.sizeOf v := by
  cases v with | mk k n f s l e =>
  have := List.sizeOf_lt_of_mem (show x ∈ e from h)
  obtain ⟨a, b⟩ := x
  simp at this ⊢; omega
theorem ind {P : V → Prop} (h : ∀ v : V, (∀ x ∈ v.l, P x) → (∀ x ∈ v.e, P x.2) → P v) : ∀ v, P v := by
  have : ∀ n (v : V), SizeOf.sizeOf v ≤ n → P v := by
    intro n
    induction n with
    | zero => intro v hv; cases v; simp at hv
    | succ n ih => exact fun v hv => h v (fun x hx => ih x (by have := lt_l hx; omega)) (fun x hx => ih x.2 (by have := lt_e hx; omega))
  exact fun v => this _ v (Nat.le_refl _)
/-- its own numbers are such, its text is not too long -/
structure wf (v : V) : Prop where
  k0 : -9223372036854775808 ≤ v.k
  k1 : v.k ≤ 9223372036854775807
  n0 : -9223372036854775808 ≤ v.n
  n1 : v.n ≤ 9223372036854775807
  f0 : 0 ≤ v.f
  f1 : v.f ≤ 18446744073709551615
  s1 : v.s.size ≤ 140737488351232
theorem wf_zero : zero.wf := ⟨by decide, by decide, by decide, by decide, by decide, by decide, by decide⟩
end V
/-- a value, and where its parts lie -/
structure Loc where
  v : V
  ad : Option Addr
  cap : Nat
  bd : Option Addr
  dap : Nat
instance : Inhabited Loc := ⟨⟨.zero, none, 0, none, 0⟩⟩
def Loc.sl (q : Loc) : Value := .slice q.ad q.v.l.length q.cap
def Loc.se (q : Loc) : Value := .slice q.bd q.v.e.length q.dap
/-- its cells -/
def Loc.cs (q : Loc) : List Value := [.int .i64 q.v.k, .int .i64 q.v.n, .int .u64 q.v.f, .string q.v.s, .slice q.ad q.v.l.length q.cap, .slice q.bd q.v.e.length q.dap]
/-- as it stands -/
def Loc.val (q : Loc) : Value := .agg #[.int .i64 q.v.k, .int .i64 q.v.n, .int .u64 q.v.f, .string q.v.s, .slice q.ad q.v.l.length q.cap, .slice q.bd q.v.e.length q.dap]
structure CellsAt (w : World) (b o : Nat) (q : Loc) : Prop where
  c0 : w.cell? ⟨b, o, none⟩ = some (.int .i64 q.v.k)
  c1 : w.cell? ⟨b, o + 1, none⟩ = some (.int .i64 q.v.n)
  c2 : w.cell? ⟨b, o + 2, none⟩ = some (.int .u64 q.v.f)
  c3 : w.cell? ⟨b, o + 3, none⟩ = some (.string q.v.s)
  c4 : w.cell? ⟨b, o + 4, none⟩ = some (.slice q.ad q.v.l.length q.cap)
  c5 : w.cell? ⟨b, o + 5, none⟩ = some (.slice q.bd q.v.e.length q.dap)
theorem CellsAt.through {w w' : World} {b o : Nat} {q : Loc} (h : CellsAt w b o q) (hb : w'.heap[b]? = w.heap[b]?) : CellsAt w' b o q := by
  have hq : ∀ o, w'.cell? ⟨b, o, none⟩ = w.cell? ⟨b, o, none⟩ := fun o => World.cell?_of_block hb
  exact ⟨(hq _).trans h.c0, (hq _).trans h.c1, (hq _).trans h.c2, (hq _).trans h.c3, (hq _).trans h.c4, (hq _).trans h.c5⟩
/-- a value in a block of its own -/
theorem CellsAt.box {w : World} {b : Nat} {q : Loc} {ty : TypeId} (h : w.heap[b]? = some (.cells q.cs.toArray ty)) : CellsAt w b 0 q := by
  constructor <;> simp [World.cell?, h, Loc.cs]
/-- the parts of a list, as entries -/
def lp (l : List V) : List (ByteArray × V) := l.map fun x => (⟨#[]⟩, x)
theorem lp_len (l : List V) : (lp l).length = l.length := by simp [lp]
theorem lp_get {l : List V} {i : Nat} {x : V} (h : l[i]? = some x) : (lp l)[i]? = some (⟨#[]⟩, x) := by simp [lp, h]
/-- how wide an element is; where its value begins -/
def st (t : Bool) : Nat := if t then 7 else 6
def fd (t : Bool) : Nat := if t then 1 else 0
/-- parts (t: entries) in memory, in blocks of B's alone -/
inductive RowAt (w : World) (B : Nat → Prop) : Bool → List (ByteArray × V) → Value → Prop
  | nil (t : Bool) (ad : Option Addr) (cap : Nat) : RowAt w B t [] (.slice ad 0 cap)
  | row (t : Bool) (xs : List (ByteArray × V)) (blk off cap : Nat) (sl se : Nat → Value) (hne : xs ≠ []) (hn : xs.length * (st t * 16 - 8) ≤ 140737488351232) (hB : B blk) (hlt : blk < w.heap.size)
    (hk : t = true → ∀ i x, xs[i]? = some x → w.cell? ⟨blk, off + i * 7, none⟩ = some (.string x.1) ∧ x.1.size ≤ 140737488351232)
    (hc : ∀ i x, xs[i]? = some x → x.2.wf ∧ w.cell? ⟨blk, off + i * st t + fd t, none⟩ = some (.int .i64 x.2.k) ∧ w.cell? ⟨blk, off + i * st t + fd t + 1, none⟩ = some (.int .i64 x.2.n) ∧
      w.cell? ⟨blk, off + i * st t + fd t + 2, none⟩ = some (.int .u64 x.2.f) ∧ w.cell? ⟨blk, off + i * st t + fd t + 3, none⟩ = some (.string x.2.s) ∧
      w.cell? ⟨blk, off + i * st t + fd t + 4, none⟩ = some (sl i) ∧ w.cell? ⟨blk, off + i * st t + fd t + 5, none⟩ = some (se i))
    (hl : ∀ i x, xs[i]? = some x → RowAt w B false (lp x.2.l) (sl i)) (he : ∀ i x, xs[i]? = some x → RowAt w B true x.2.e (se i)) :
    RowAt w B t xs (.slice (some ⟨blk, off, none⟩) xs.length cap)
/-- a value whose parts lie in memory -/
structure VAt (w : World) (B : Nat → Prop) (q : Loc) : Prop where
  wf : q.v.wf
  l : RowAt w B false (lp q.v.l) (.slice q.ad q.v.l.length q.cap)
  e : RowAt w B true q.v.e (.slice q.bd q.v.e.length q.dap)

theorem RowAt.through {w w' : World} {B C : Nat → Prop} {t : Bool} {xs : List (ByteArray × V)} {v : Value} (h : RowAt w B t xs v) (hs : w.heap.size ≤ w'.heap.size)
    (hb : ∀ b, B b → b < w.heap.size → w'.heap[b]? = w.heap[b]?) (hC : ∀ b, B b → b < w.heap.size → C b) : RowAt w' C t xs v := by
  induction h with
  | nil t ad cap => exact .nil t ad cap
  | row t xs blk off cap sl se hne hn hB hlt hk hc hl he ihl ihe =>
    have hq : ∀ o, w'.cell? ⟨blk, o, none⟩ = w.cell? ⟨blk, o, none⟩ := fun o => World.cell?_of_block (hb blk hB hlt)
    refine .row t xs blk off cap sl se hne hn (hC _ hB hlt) (Nat.lt_of_lt_of_le hlt hs) (fun ht i x hi => ?_) (fun i x hi => ?_) ihl ihe
    · rw [hq]; exact hk ht i x hi
    · rw [hq, hq, hq, hq, hq, hq]; exact hc i x hi
theorem RowAt.weak {w : World} {B C : Nat → Prop} {t : Bool} {xs : List (ByteArray × V)} {v : Value} (h : RowAt w B t xs v) (hC : ∀ b, B b → b < w.heap.size → C b) : RowAt w C t xs v :=
  h.through (Nat.le_refl _) (fun _ _ _ => rfl) hC
theorem RowAt.keep {w w' : World} {B : Nat → Prop} {t : Bool} {xs : List (ByteArray × V)} {v : Value} (h : RowAt w B t xs v) (hb : Below w.heap.size w w') : RowAt w' B t xs v :=
  h.through hb.size (fun b _ hl => hb.block b hl) (fun _ h _ => h)
theorem RowAt.grow {w w' : World} {B : Nat → Prop} {t : Bool} {xs : List (ByteArray × V)} {v : Value} {row : Option Nat} (h : RowAt w B t xs v) (hg : w.grownBy w' row) (hr : ∀ b, row = some b → ¬ B b) : RowAt w' B t xs v :=
  h.through hg.size (fun b hB hl => hg.block b hl (fun e => hr b e.symm hB)) (fun _ h _ => h)
theorem RowAt.len {w : World} {B : Nat → Prop} {t : Bool} {xs : List (ByteArray × V)} {v : Value} (h : RowAt w B t xs v) : ∃ ad cap, v = .slice ad xs.length cap := by
  cases h with
  | nil t ad cap => exact ⟨ad, cap, rfl⟩
  | row t xs blk off cap => exact ⟨_, cap, rfl⟩
theorem RowAt.bound {w : World} {B : Nat → Prop} {t : Bool} {xs : List (ByteArray × V)} {v : Value} (h : RowAt w B t xs v) : xs.length * (st t * 16 - 8) ≤ 140737488351232 := by
  cases h with
  | nil t ad cap => simp
  | row t xs blk off cap sl se hne hn => exact hn
theorem RowAt.llen {w : World} {B : Nat → Prop} {l : List V} {v : Value} (h : RowAt w B false (lp l) v) : ∃ ad cap, v = .slice ad l.length cap := by
  have := h.len; rw [lp_len] at this; exact this
/-- an element of a list -/
theorem RowAt.elem {w : World} {B : Nat → Prop} {l : List V} {ad : Option Addr} {n cap : Nat} (h : RowAt w B false (lp l) (.slice ad n cap)) (hl : 0 < l.length) : ∃ b off, ad = some ⟨b, off, none⟩ ∧ B b ∧ b < w.heap.size ∧
    ∀ i x, l[i]? = some x → ∃ q : Loc, q.v = x ∧ VAt w B q ∧ CellsAt w b (off + i * 6) q := by
  generalize hx : lp l = xs at h
  generalize hv : Value.slice ad n cap = v at h
  generalize ht : false = t at h
  cases h with
  | nil t ad cap => have := congrArg List.length hx; rw [lp_len, List.length_nil] at this; omega
  | row t xs blk off cap sl se hne hn hB hlt hk hc hl he =>
    subst hx
    subst ht
    simp only [Value.slice.injEq] at hv
    obtain ⟨rfl, rfl, rfl⟩ := hv
    refine ⟨blk, off, rfl, hB, hlt, fun i x hi => ?_⟩
    obtain ⟨h0, h1, h2, h3, h4, h5, h6⟩ := hc i _ (lp_get hi)
    have hl' := hl i _ (lp_get hi)
    have he' := he i _ (lp_get hi)
    obtain ⟨a1, c1, e1⟩ := hl'.llen
    obtain ⟨a2, c2, e2⟩ := he'.len
    rw [e1] at h5 hl'
    rw [e2] at h6 he'
    exact ⟨⟨x, a1, c1, a2, c2⟩, rfl, ⟨h0, hl', he'⟩, h1, h2, h3, h4, h5, h6⟩
/-- an entry of a table -/
theorem RowAt.entry {w : World} {B : Nat → Prop} {l : List (ByteArray × V)} {ad : Option Addr} {n cap : Nat} (h : RowAt w B true l (.slice ad n cap)) (hl : 0 < l.length) : ∃ b off, ad = some ⟨b, off, none⟩ ∧ B b ∧ b < w.heap.size ∧
    ∀ i x, l[i]? = some x → x.1.size ≤ 140737488351232 ∧ w.cell? ⟨b, off + i * 7, none⟩ = some (.string x.1) ∧ ∃ q : Loc, q.v = x.2 ∧ VAt w B q ∧ CellsAt w b (off + i * 7 + 1) q := by
  generalize hv : Value.slice ad n cap = v at h
  generalize ht : true = t at h
  cases h with
  | nil t ad cap => simp at hl
  | row t xs blk off cap sl se hne hn hB hlt hk hc hl he =>
    subst ht
    simp only [Value.slice.injEq] at hv
    obtain ⟨rfl, rfl, rfl⟩ := hv
    refine ⟨blk, off, rfl, hB, hlt, fun i x hi => ?_⟩
    obtain ⟨h0, h1, h2, h3, h4, h5, h6⟩ := hc i _ hi
    obtain ⟨k1, k2⟩ := hk rfl i x hi
    have hl' := hl i _ hi
    have he' := he i _ hi
    obtain ⟨a1, c1, e1⟩ := hl'.llen
    obtain ⟨a2, c2, e2⟩ := he'.len
    rw [e1] at h5 hl'
    rw [e2] at h6 he'
    exact ⟨k2, k1, ⟨x.2, a1, c1, a2, c2⟩, rfl, ⟨h0, hl', he'⟩, h1, h2, h3, h4, h5, h6⟩
/-- the cells of an entry, one by one -/
theorem CellsAt.seven {w : World} {b o : Nat} {q : Loc} (h : CellsAt w b (o + 1) q) : w.cell? ⟨b, o + 1, none⟩ = some (.int .i64 q.v.k) ∧ w.cell? ⟨b, o + 2, none⟩ = some (.int .i64 q.v.n) ∧ w.cell? ⟨b, o + 3, none⟩ = some (.int .u64 q.v.f) ∧
    w.cell? ⟨b, o + 4, none⟩ = some (.string q.v.s) ∧ w.cell? ⟨b, o + 5, none⟩ = some (.slice q.ad q.v.l.length q.cap) ∧ w.cell? ⟨b, o + 6, none⟩ = some (.slice q.bd q.v.e.length q.dap) := h.casesOn fun a b c d e f => ⟨a, b, c, d, e, f⟩
theorem RowAt.lbound {w : World} {B : Nat → Prop} {l : List V} {v : Value} (h : RowAt w B false (lp l) v) : l.length * 88 ≤ 140737488351232 := by
  have := h.bound; rw [lp_len] at this; simpa [st] using this
theorem RowAt.ebound {w : World} {B : Nat → Prop} {l : List (ByteArray × V)} {v : Value} (h : RowAt w B true l v) : l.length * 104 ≤ 140737488351232 := by
  have := h.bound; simpa [st] using this
variable {w w' : World} {B C : Nat → Prop} {q : Loc}
theorem VAt.through (h : VAt w B q) (hs : w.heap.size ≤ w'.heap.size) (hb : ∀ b, B b → b < w.heap.size → w'.heap[b]? = w.heap[b]?) (hC : ∀ b, B b → b < w.heap.size → C b) : VAt w' C q :=
  ⟨h.wf, h.l.through hs hb hC, h.e.through hs hb hC⟩
theorem VAt.weak (h : VAt w B q) (hC : ∀ b, B b → b < w.heap.size → C b) : VAt w C q := ⟨h.wf, h.l.weak hC, h.e.weak hC⟩
theorem VAt.keep (h : VAt w B q) (hb : Below w.heap.size w w') : VAt w' B q := ⟨h.wf, h.l.keep hb, h.e.keep hb⟩
theorem VAt.grow {row : Option Nat} (h : VAt w B q) (hg : w.grownBy w' row) (hr : ∀ b, row = some b → ¬ B b) : VAt w' B q := ⟨h.wf, h.l.grow hg hr, h.e.grow hg hr⟩
theorem VAt.zero (w : World) (B : Nat → Prop) (a b : Option Addr) (c d : Nat) : VAt w B ⟨.zero, a, c, b, d⟩ := ⟨V.wf_zero, .nil _ _ _, .nil _ _ _⟩
end Go.Proofs.YtldhmfkojaekfaaGreatDoor
namespace Go.Proofs.YtldhmfkojaekfaaGreatDoor
open Go.RowKit Gx
def isK (s : ByteArray) (x : ByteArray × V) : Bool := x.1.toList == s.toList
/-- where a key stands first; the length: nowhere -/
def fidx (s : ByteArray) (l : List (ByteArray × V)) : Nat := l.findIdx (isK s)
def gtK (s : ByteArray) (x : ByteArray × V) : Bool := !Op.bytesLess x.1.toList s.toList && !(x.1.toList == s.toList)
def gidx (s : ByteArray) (l : List (ByteArray × V)) : Nat := l.findIdx (gtK s)
def dropL (l : List (ByteArray × V)) (s : ByteArray) : List (ByteArray × V) := l.filter fun x => !isK s x
def insL (l : List (ByteArray × V)) (s : ByteArray) (v : V) : List (ByteArray × V) := l.take (gidx s l) ++ (s, v) :: l.drop (gidx s l)
def putL (l : List (ByteArray × V)) (s : ByteArray) (v : V) : List (ByteArray × V) := insL (dropL l s) s v
end Go.Proofs.YtldhmfkojaekfaaGreatDoor
namespace Go.Proofs.YtldhmfkojaekfaaGreatDoor
open Go.RowKit Gx
/-- the fraction that a text tells, if it tells one -/
noncomputable def floatOf (l : List UInt8) : Option Nat := open Classical in if h : ∃ x, ReadIs l x 0 then some (Classical.choose h) else none
theorem numIs_uniq {l : List UInt8} {x y : Nat} {a b : Int} {m : Bool} (h : NumIs l x a m) (g : NumIs l y b m) : x = y ∧ (a = 0 ↔ b = 0) := by
  rcases h with ⟨h1, h2, h3⟩ | ⟨d, e, p, h1, h2, h3⟩
  · rcases g with ⟨g1, g2, g3⟩ | ⟨d', e', p', g1, -⟩
    · exact ⟨by rw [h2, g2], ⟨fun h => absurd h h3, fun h => absurd h g3⟩⟩
    · rw [h1] at g1; cases g1
  · rcases g with ⟨g1, -⟩ | ⟨d', e', p', g1, g2, g3⟩
    · rw [h1] at g1; cases g1
    · rw [h1] at g1
      obtain ⟨rfl, rfl⟩ := Prod.mk.inj (Option.some.inj g1)
      obtain rfl : p = p' := Rnd.uniq h2 g2 (tenDn_pos _) (tenDn_pos _) rfl
      rcases h3 with ⟨h3, h4, h5⟩ | ⟨h3, h4, h5⟩ <;> rcases g3 with ⟨g3, g4, g5⟩ | ⟨g3, g4, g5⟩
      · exact ⟨by rw [h4, g4], ⟨fun h => absurd h h5, fun h => absurd h g5⟩⟩
      · omega
      · omega
      · exact ⟨by rw [h4, g4], ⟨fun _ => g5, fun _ => h5⟩⟩
theorem readIs_uniq {l : List UInt8} {x y : Nat} {a b : Int} (h : ReadIs l x a) (g : ReadIs l y b) : x = y ∧ (a = 0 ↔ b = 0) := by
  rcases h with ⟨h1, h2, h3⟩ | ⟨h1, h⟩
  · rcases g with ⟨g1, g2, g3⟩ | ⟨g1, -⟩
    · exact ⟨by rw [h2, g2], ⟨fun h => absurd h h3, fun h => absurd h g3⟩⟩
    · omega
  · rcases g with ⟨g1, -⟩ | ⟨-, g⟩
    · omega
    rcases h with ⟨h1, h2, h3⟩ | ⟨h1, h2, h3, h4⟩ | ⟨h1, h2, h3⟩ <;> rcases g with ⟨g1, g2, g3⟩ | ⟨g1, g2, g3, g4⟩ | ⟨g1, g2, g3⟩
    · exact ⟨by rw [h2, g2], ⟨fun _ => g3, fun _ => h3⟩⟩
    · exact absurd h1 g1
    · exact absurd h1 g1
    · exact absurd g1 h1
    · exact ⟨by rw [h3, g3], ⟨fun _ => g4, fun _ => h4⟩⟩
    · exact absurd h2 g2
    · exact absurd g1 h1
    · exact absurd g2 h2
    · exact numIs_uniq h3 g3
theorem float_yes {l : List UInt8} {x : Nat} (h : ReadIs l x 0) : floatOf l = some x := by
  have he : ∃ x, ReadIs l x 0 := ⟨x, h⟩
  unfold floatOf
  rw [dif_pos he, (readIs_uniq (Classical.choose_spec he) h).1]
theorem float_no {l : List UInt8} {x : Nat} {er : Int} (h : ReadIs l x er) (hn : er ≠ 0) : floatOf l = none := by
  unfold floatOf
  rw [dif_neg]
  rintro ⟨y, hy⟩
  exact hn ((readIs_uniq h hy).2.2 rfl)

def nullT : List UInt8 := [110, 117, 108, 108]
def trueT : List UInt8 := [116, 114, 117, 101]
def falseT : List UInt8 := [102, 97, 108, 115, 101]
/-- what a word means -/
noncomputable def wordOf (l : List UInt8) : Option V :=
  if l = nullT then some .zero else if l = trueT then some (.mk 1 1 0 ⟨#[]⟩ [] []) else if l = falseT then some (.mk 1 0 0 ⟨#[]⟩ [] [])
  else if (readOf l).2 = 0 then some (.mk 2 (readOf l).1 0 ⟨#[]⟩ [] [])
  else if (readOf l).2 = 4 then (floatOf l).map fun x : Nat => V.mk 3 0 (x : Int) ⟨#[]⟩ [] []
  else none
def saidOf (l : List UInt8) : Option ByteArray := (unquote l).map fun p => ⟨(encs p.1).toArray⟩
noncomputable def leafOf (k : Int) (l : List UInt8) : Option V := if k = 5 then (saidOf l).map fun s => .mk 4 0 0 s [] [] else wordOf l
def keyOf (k : Int) (l : List UInt8) : Option ByteArray := if k = 5 then saidOf l else if bareOf l = true then some ⟨l.toArray⟩ else none

def TS.end_ (X : TS) (i : Nat) : Nat := match X.T[i]? with | some t => t.2.2 | none => X.l.length
def TS.bytes (X : TS) (i : Nat) : List UInt8 := (X.l.drop (X.pos i)).take (X.end_ i - X.pos i)

/-- a fault: its place, and whether it is a key that stands twice -/
abbrev Flt := Nat × Bool
noncomputable def leafN (X : TS) (i : Nat) : Except Flt V := match leafOf (X.kind i) (X.bytes i) with | some v => .ok v | none => .error (X.pos i, false)
def keyN (X : TS) (i : Nat) (acc : List (ByteArray × V)) : Except Flt ByteArray := match keyOf (X.kind i) (X.bytes i) with
  | none => .error (X.pos i, false)
  | some s => if fidx s acc < acc.length then .error (X.pos i, true) else .ok s
def listN (f : Nd → Except Flt V) : List V → List Nd → Except Flt (List V)
  | acc, [] => .ok acc
  | acc, n :: r => match f n with
    | .error e => .error e
    | .ok v => listN f (acc ++ [v]) r
def tableN (X : TS) (f : Nd → Except Flt V) : List (ByteArray × V) → List Nd → Except Flt (List (ByteArray × V))
  | acc, [] => .ok acc
  | acc, n :: r => match keyN X (n.kids.getD 0 Nd.none).a acc with
    | .error e => .error e
    | .ok s => match f (n.kids.getD 1 Nd.none) with
      | .error e => .error e
      | .ok v => tableN X f (putL acc s v) r
def listV (l : List V) : V := .mk 5 0 0 ⟨#[]⟩ l []
def tableV (l : List (ByteArray × V)) : V := .mk 6 0 0 ⟨#[]⟩ [] l
noncomputable def meanN (X : TS) : Nat → Nd → Except Flt V
  | 0, _ => .error (0, false)
  | d + 1, n =>
    if n.k = 5 then (match listN (meanN X d) [] n.kids with | .ok l => .ok (listV l) | .error e => .error e)
    else if n.k = 3 then (match tableN X (meanN X d) [] n.kids with | .ok l => .ok (tableV l) | .error e => .error e)
    else leafN X n.a
/-- nodes as the reader makes them -/
def Wn (X : TS) : Nat → Nd → Prop
  | 0, _ => False
  | d + 1, n => n.kids.length ≤ X.T.length ∧ ((n.k = 5 ∧ ∀ x ∈ n.kids, Wn X d x) ∨ (n.k = 3 ∧ ∀ x ∈ n.kids, ∃ k y, x.kids = [k, y] ∧ k.a < X.T.length ∧ Wn X d y) ∨ (n.k ≠ 5 ∧ n.k ≠ 3 ∧ n.a < X.T.length))
theorem many_all {X : TS} {P : Nd → Prop} {kid : PS → PS × Nd} (hs : Stays fun s => (kid s).1) (hk : ∀ s, s.i ≤ X.T.length → (kid s).1.bad = 0 → P (kid s).2 ∧ (kid s).1.i ≤ X.T.length) (e : UInt8) : ∀ (f : Nat) (s : PS) (ks : List Nd), s.i ≤ X.T.length → (∀ n ∈ ks, P n) → (manyS X kid e f s ks).1.bad = 0 → ∀ n ∈ (manyS X kid e f s ks).2, P n
  | 0, s, ks, hi, h, hb => (fail_not (X := X) (e := 4) (by decide) hb).elim
  | f + 1, s, ks, hi, h, hb => by
    have hs0 : s.bad = 0 := good_of (f := fun u => (manyS X kid e (f + 1) u ks).1) (fun u hu => many_stays X kid e (f + 1) u ks hu) hb
    by_cases hm : (s.skip X).mark X = e
    · have e1 : manyS X kid e (f + 1) s ks = (s.skip X, ks) := by rw [manyS, if_pos (.inl hm)]
      rw [e1]; exact h
    · have hn : ¬ ((s.skip X).mark X = e ∨ s.bad ≠ 0) := fun h => h.elim hm (fun h => h hs0)
      have hgo := manyS_go (kid := kid) (ks := ks) (Nat.succ_le_succ (Nat.zero_le f)) hn
      rw [hgo] at hb ⊢
      rw [show f + 1 - 1 = f from rfl] at hb ⊢
      have hr0 : (roundS X e ((kid (s.skip X)).1.skip X)).bad = 0 := good_of (f := fun u => (manyS X kid e f u (ks ++ [(kid (s.skip X)).2])).1) (fun u hu => many_stays X kid e f u _ hu) hb
      have hr : (kid (s.skip X)).1.bad = 0 := by
        unfold roundS at hr0
        split at hr0
        · exact hr0
        · split at hr0
          · exact hr0
          · exact (fail_not (by decide) hr0).elim
      have h1 := hk (s.skip X) ((skip_fine X s).2.1 hi) hr
      refine many_all hs hk e f _ _ ?_ (fun n hn => ?_) hb
      · have h2 := (skip_fine X (kid (s.skip X)).1).2.1 h1.2
        unfold roundS at hr0 ⊢
        split at hr0
        · rename_i h44
          rw [if_pos h44]
          exact mark_lt h44 (by decide)
        · rename_i h44
          rw [if_neg h44]
          split at hr0
          · rename_i h5
            rw [if_pos h5]; exact h2
          · exact (fail_not (by decide) hr0).elim
      · rcases List.mem_append.1 hn with hn | hn
        · exact h n hn
        · obtain rfl : n = (kid (s.skip X)).2 := by simpa using hn
          exact h1.1
theorem covers_len {X : TS} {n : Nd} (h : Covers X n) : n.kids.length ≤ X.T.length := by cases n with | mk k a b kids => exact h.len
theorem leaf_row {X : TS} {k : Int} {s : PS} (hb : (leafS X k s).1.bad = 0) : (leafS X k s).2 = .mk k (s.skip X).i ((s.skip X).i + 1) [] ∧ (s.skip X).i < X.T.length := by
  unfold leafS at hb ⊢
  split at hb
  · rename_i h3
    rw [if_pos h3]
    refine ⟨rfl, ?_⟩
    rcases Nat.lt_or_ge (s.skip X).i X.T.length with h4 | h4
    · exact h4
    · exfalso
      unfold TS.kind at h3
      rw [List.getElem?_eq_none h4] at h3
      exact absurd h3 (by decide)
  · exact (fail_not (by decide) hb).elim
theorem leaf_wn {X : TS} {s : PS} {d : Nat} (hb : (leafS X 1 s).1.bad = 0) : Wn X (d + 1) (leafS X 1 s).2 := by
  obtain ⟨h1, h2⟩ := leaf_row hb
  rw [h1]
  exact ⟨Nat.zero_le _, .inr (.inr ⟨show ¬ (1 : Int) = 5 by decide, show ¬ (1 : Int) = 3 by decide, h2⟩)⟩
theorem value_wn (X : TS) : ∀ d s, s.i ≤ X.T.length → (valueS X d s).1.bad = 0 → Wn X (d + 1) (valueS X d s).2
  | 0, s, hi, hb => by
    unfold valueS at hb ⊢
    split at hb
    · exact (fail_not (by decide) hb).elim
    · rename_i h
      rw [if_neg h]
      exact leaf_wn hb
  | d + 1, s, hi, hb => by
    have hc := (value_cov X (d + 1) s hb hi).cov
    have hl := covers_len hc
    have hi2 := (skip_fine X s).2.1 hi
    unfold valueS at hb hl ⊢
    split at hb
    · rename_i h
      rw [if_pos h] at hl ⊢
      refine ⟨hl, .inr (.inl ⟨rfl, ?_⟩)⟩
      refine many_all (X := X) (kid := entryS X (valueS X d)) (P := fun x => ∃ k y, x.kids = [k, y] ∧ k.a < X.T.length ∧ Wn X (d + 1) y) (entry_stays X _) (fun u hu hub => ?_) 125 X.F _ [] (mark_lt h (by decide)) (fun n hn => by cases hn) hb
      have hr := entry_cov (value_cov X d) (value_stays X d) u hub hu
      refine ⟨?_, hr.le⟩
      unfold entryS at hub ⊢
      split at hub
      · rename_i h1; exact absurd hub h1
      · rename_i h1
        rw [if_neg h1]
        have hcb : (colonS X ((leafS X 2 u).1.skip X)).bad = 0 := by
          by_cases h0 : (colonS X ((leafS X 2 u).1.skip X)).bad = 0
          · exact h0
          · exact absurd h0 h1
        obtain ⟨c1, c2, c3, c4⟩ := colon_good hcb
        have hlf := leaf_row (k := 2) (s := u) c2
        refine ⟨_, _, rfl, by rw [hlf.1]; exact hlf.2, value_wn X d _ ?_ hub⟩
        rw [c1]; exact c4
    · rename_i h
      rw [if_neg h] at hl ⊢
      split at hb
      · rename_i h2
        rw [if_pos h2] at hl ⊢
        refine ⟨hl, .inl ⟨rfl, ?_⟩⟩
        exact many_all (X := X) (kid := valueS X d) (P := Wn X (d + 1)) (value_stays X d) (fun u hu hub => ⟨value_wn X d u hu hub, (value_cov X d u hub hu).le⟩) 93 X.F _ [] (mark_lt h2 (by decide)) (fun n hn => by cases hn) hb
      · rename_i h2
        rw [if_neg h2] at hl ⊢
        exact leaf_wn hb
end Go.Proofs.YtldhmfkojaekfaaGreatDoor
namespace Go.Proofs.YtldhmfkojaekfaaGreatDoor
open Go.RowKit Gx
/-- a token: its kind, its place, its bytes -/
abbrev Tk := Int × Nat × List UInt8
/-- the solid tokens of a text that lies at a place -/
def solO (l : List UInt8) (o : Nat) : List Tk := ((toksFrom l 0).filter fun t => solidK t.1).map fun t => (t.1, o + t.2.1, (l.drop t.2.1).take (t.2.2 - t.2.1))
/-- what may stand behind a token -/
def Okz (k : Int) (p z : List UInt8) : Prop := ((k = 1 ∨ k = 4) → ∀ c, z.head? = some c → classOf (c.toNat : Int) ≠ k) ∧ (p.head? = some 35 → k = 3 → ∀ c, z.head? = some c → c = 10)
theorem Okz.nil (k : Int) (p : List UInt8) : Okz k p [] := ⟨fun _ c h => by simp at h, fun _ _ c h => by simp at h⟩
theorem Okz.head {k : Int} {p y z : List UInt8} (h : Okz k p y) (e : z.head? = y.head?) : Okz k p z := by unfold Okz; rw [e]; exact h
/-- what stands ahead of z is cut so, whatever begins as z does -/
inductive TokSeq (z : List UInt8) : List UInt8 → Prop
  | nil : TokSeq z []
  | cons (p a : List UInt8) (k : Int) (hp : p ≠ []) (h : nextTok p = (k, p.length)) (hk : k ≠ 7) (hz : Okz k p (a ++ z)) (ha : TokSeq z a) : TokSeq z (p ++ a)
theorem app_head (a y z : List UInt8) (h : z.head? = y.head?) : (a ++ z).head? = (a ++ y).head? := by cases a <;> simp [h]
theorem TokSeq.head {y z a : List UInt8} (h : TokSeq y a) (e : z.head? = y.head?) : TokSeq z a := by
  induction h with
  | nil => exact .nil
  | cons p a k hp h hk hz ha ih => exact .cons p a k hp h hk (hz.head (app_head a y z e)) ih
end Go.Proofs.YtldhmfkojaekfaaGreatDoor
namespace Go.Proofs.YtldhmfkojaekfaaGreatDoor
open Go.RowKit Gx
abbrev Kb := Int × List UInt8
/-- the solid tokens from a place on -/
def kbX (X : TS) (i : Nat) : List Kb := ((X.T.drop i).filter fun t => solidK t.1).map fun t => (t.1, (X.l.drop t.2.1).take (t.2.2 - t.2.1))
/-- a mark is one byte -/
def MarkOk (X : TS) : Prop := ∀ i, i < X.T.length → X.kind i = 6 → X.bytes i = [X.l.getD (X.pos i) 0]
inductive Items {α : Type} (K : List Kb → α → List Kb → Prop) (e : UInt8) : List Kb → List α → List Kb → Prop
  | nil (r : List Kb) : Items K e ((6, [e]) :: r) [] r
  | last (ts : List Kb) (a : α) (r : List Kb) (h : K ts a ((6, [e]) :: r)) : Items K e ts [a] r
  | more (ts : List Kb) (a : α) (ts' : List Kb) (l : List α) (r : List Kb) (h : K ts a ((6, [44]) :: ts')) (hl : Items K e ts' l r) : Items K e ts (a :: l) r
def EntK (K : List Kb → V → List Kb → Prop) (ts : List Kb) (a : ByteArray × V) (r : List Kb) : Prop :=
  ∃ t c ts', ts = t :: (6, [c]) :: ts' ∧ (t.1 = 4 ∨ t.1 = 5) ∧ (c = 58 ∨ c = 61) ∧ keyOf t.1 t.2 = some a.1 ∧ K ts' a.2 r
def putAll (acc : List (ByteArray × V)) (l : List (ByteArray × V)) : List (ByteArray × V) := l.foldl (fun acc x => putL acc x.1 x.2) acc
/-- keys that stand once -/
def Once : List ByteArray → List (ByteArray × V) → Prop
  | _, [] => True
  | ks, x :: l => x.1 ∉ ks ∧ Once (x.1 :: ks) l
def G : Nat → List Kb → V → List Kb → Prop
  | 0, _, _, _ => False
  | d + 1, ts, v, r => (∃ t, ts = t :: r ∧ (t.1 = 4 ∨ t.1 = 5) ∧ leafOf t.1 t.2 = some v) ∨ (∃ ts' l, ts = (6, [91]) :: ts' ∧ Items (G d) 93 ts' l r ∧ v = listV l) ∨
    (∃ ts' l, ts = (6, [123]) :: ts' ∧ Items (EntK (G d)) 125 ts' l r ∧ Once [] l ∧ v = tableV (putAll [] l))
inductive All2 {α β : Type} (R : α → β → Prop) : List α → List β → Prop
  | nil : All2 R [] []
  | cons (a : α) (b : β) (l : List α) (m : List β) (h : R a b) (hl : All2 R l m) : All2 R (a :: l) (b :: m)

/-- an entry's node -/
def EntN (X : TS) (f : Nd → Except Flt V) (n : Nd) (a : ByteArray × V) : Prop := keyOf (X.kind (n.kids.getD 0 Nd.none).a) (X.bytes (n.kids.getD 0 Nd.none).a) = some a.1 ∧ f (n.kids.getD 1 Nd.none) = .ok a.2
end Go.Proofs.YtldhmfkojaekfaaGreatDoor
namespace Go.Proofs.YtldhmfkojaekfaaGreatDoor
open Go.RowKit Gx
def ReadPost (r : Int × Int) (w : World) (e : Ending) (w' : World) : Prop := e = .returned (.tuple #[.int .i64 r.1, .int .i64 r.2]) ∧ Below w.heap.size w w'

theorem baseOf_le (l : List UInt8) : (baseOf l).1 ≤ 16 ∧ 2 ≤ (baseOf l).1 ∧ (baseOf l).2.length ≤ l.length := by
  have h : ∀ p, (Lib.trimPrefix l p).length ≤ l.length := by
    intro p
    unfold Lib.trimPrefix
    split
    · simp
    · exact Nat.le_refl _
  unfold baseOf
  split
  · exact ⟨by simp, by simp, h _⟩
  · split
    · exact ⟨by simp, by simp, h _⟩
    · split
      · exact ⟨by simp, by simp, h _⟩
      · exact ⟨by simp, by simp, Nat.le_refl _⟩

theorem byte0 (R : ByteArray) (h : 0 < R.size) : R[0]'h = R.data.toList.getD 0 0 := by
  have h2 : 0 < R.data.size := h
  show R.data[0] = _
  simp [List.getD, Array.getElem?_eq_getElem h2]

theorem ints_drop (R : ByteArray) (r : List UInt8) (hr : R.data.toList = r) (k : Nat) (hk : k < R.data.size) : (intsNm r).drop k = ((R.data[k].toNat : Nat) : Int) :: (intsNm r).drop (k + 1) := by
  subst hr
  unfold intsNm
  rw [List.drop_eq_getElem_cons (by simpa using hk)]
  simp

theorem add64_run (x y : Int) (hx : 0 ≤ x) (hy : 0 ≤ y) (w : World) :
    (callFunc 123 #[.int .u64 x, .int .u64 y, .int .u64 0]).run Tryz.prog w =
      .ok (.value (.tuple #[.int .u64 ((x + y + 0) % 18446744073709551616), .int .u64 ((x + y + 0) / 18446744073709551616)])) w := by
  rw [run_callFunc_extern Tryz.func123 (by kernel_rfl) (by kernel_rfl) (by kernel_rfl) (e := add64Entry) (by kernel_rfl), run_add64 x y 0 hx hy (by omega) (by omega)]
  rfl

set_option maxRecDepth 4000 in
set_option maxHeartbeats 4000000 in
theorem read_any (s : ByteArray) (w : World) : Calls Tryz.prog 102 #[.string s] w (ReadPost (readOf s.data.toList) w) := by
  by_cases h80 : 80 < s.size
  · have e : readOf s.data.toList = (0, 2) := by unfold readOf; rw [if_pos (by rw [← Lib.size_eq]; exact h80)]
    have E := Lib.hid e
    clear e
    go_enter Tryz.func102, Tryz.ntmps102
    go_wp2
    go_ret2
    exact ⟨by rw [E.out]; rfl, Below.refl _ _⟩
  have h1 := Tryz.strings_CutPrefix s ⟨#[45]⟩ w
  obtain ⟨l, hl⟩ : ∃ l, l = s.data.toList := ⟨_, rfl⟩
  rw [← hl] at h1 ⊢
  have hll : l.length ≤ 80 := by rw [hl, ← Lib.size_eq]; omega
  have htl : (Lib.trimPrefix l [45]).length ≤ l.length := by
    unfold Lib.trimPrefix
    split
    · simp
    · exact Nat.le_refl _
  have e : readOf l = readBy (Lib.hasPrefix l [45]) (baseOf (Lib.trimPrefix l [45])).1 (baseOf (Lib.trimPrefix l [45])).2 := by
    unfold readOf; rw [if_neg (by omega)]
  obtain ⟨b16, b2, brl⟩ := baseOf_le (Lib.trimPrefix l [45])
  have hbase := fun w => base_any ⟨(Lib.trimPrefix l [45]).toArray⟩ w
  simp only [List.toList_toArray] at hbase
  obtain ⟨mi, hmi⟩ : ∃ m, m = Lib.hasPrefix l [45] := ⟨_, rfl⟩
  obtain ⟨R0, hR0⟩ : ∃ R : ByteArray, R = ⟨(Lib.trimPrefix l [45]).toArray⟩ := ⟨_, rfl⟩
  obtain ⟨b, hb⟩ : ∃ b, b = (baseOf (Lib.trimPrefix l [45])).1 := ⟨_, rfl⟩
  obtain ⟨r, hr⟩ : ∃ r, r = (baseOf (Lib.trimPrefix l [45])).2 := ⟨_, rfl⟩
  have h1' : Calls Tryz.prog 119 #[.string s, .string ⟨#[45]⟩] w fun e w' => e = .returned (.tuple #[.string R0, .bool mi]) ∧ w' = w := by
    rw [hR0, hmi]; exact h1
  have hbase' : ∀ w, Calls Tryz.prog 120 #[.string R0] w fun e w' => e = .returned (.tuple #[.int .u64 (b : Nat), .string ⟨r.toArray⟩]) ∧ Below w.heap.size w w' := by
    intro w
    have := hbase w
    unfold BasePost at this
    rw [← hR0, ← hb, ← hr] at this
    exact this
  rw [← hmi, ← hb, ← hr] at e
  rw [← hb] at b16 b2
  rw [← hr] at brl
  have hrl : r.length ≤ 80 := by omega
  have E := Lib.hid e
  have H1 := Lib.hid h1'
  have HB := Lib.hid hbase'
  clear h1 hbase h1' hbase' e hmi hR0 hb hr htl brl hll hl
  obtain ⟨R, hR⟩ : ∃ R : ByteArray, R = ⟨r.toArray⟩ := ⟨_, rfl⟩
  have hRl : R.data.toList = r := by rw [hR]
  have hRs : R.size = r.length := by rw [Lib.size_eq, hRl]
  rw [← hR] at HB
  have hR80 : R.size ≤ 80 := by omega
  have HRL := Lib.hid hRl
  have HRS := Lib.hid hRs
  clear hRl hRs hR hrl
  rw [E.out]
  go_enter Tryz.func102, Tryz.ntmps102
  go_wp2_with fail
  refine H1.out.mono ?_
  rintro e w' ⟨rfl, rfl⟩
  go_wp2_with fail
  refine (HB.out w').mono ?_
  rintro e w1 ⟨rfl, hb1⟩
  by_cases hz : b = 10 ∧ 1 < r.length ∧ r.getD 0 0 = 48
  · have e2 : readBy mi b r = (0, 4) := by unfold readBy; rw [if_pos hz]
    obtain ⟨rfl, z1, z2⟩ := hz
    have hpos : 0 < R.size := by have := HRS.out; omega
    have z3 : (1 : Int) < (R.size : Int) := by have := HRS.out; omega
    have z4 : (((R[0]'hpos).toNat : Int) == 48) = true := by
      rw [byte0 R hpos, HRL.out, z2]; rfl
    have E2 := Lib.hid e2
    clear e2 z1 z2
    go_wp2_with fail
    go_ret2
    exact ⟨by rw [E2.out]; rfl, hb1⟩
  · have e2 : readBy mi b r = readEnd mi (numLoop b (intsNm r) 95 0 0) := by unfold readBy; rw [if_neg hz]
    obtain ⟨Q, hQ⟩ : ∃ Q, Q = numLoop b (intsNm r) 95 0 0 := ⟨_, rfl⟩
    rw [← hQ] at e2
    have HQ := Lib.hid hQ
    have E2 := Lib.hid e2
    obtain ⟨cap, w2, hconv, -, -, hg, hC⟩ := Gx.conv_bytes_run (P := Tryz.prog) w1 9 72 5 R Tryz.underlying9 Tryz.underlying72 Tryz.underlying5
    have hb2 : Below w'.heap.size w' w2 := hb1.grown hg hb1.size (by simp)
    have HC := Lib.hid hC
    have hcase : (b = 10 ∧ ∃ h : 1 < R.size, (((R[0]'(by omega)).toNat : Int) == 48) = false) ∨ (b = 10 ∧ ¬ (1 < R.size)) ∨ ¬ (b = 10) := by
      by_cases c1 : b = 10
      · by_cases c2 : 1 < R.size
        · left
          refine ⟨c1, c2, ?_⟩
          rw [byte0 R (by omega), HRL.out]
          cases c3 : ((((r.getD 0 0).toNat : Nat) : Int) == 48) with
          | false => rfl
          | true =>
            exfalso
            refine hz ⟨c1, by rw [← HRS.out]; exact c2, ?_⟩
            apply UInt8.toNat_inj.1
            have c4 : (((r.getD 0 0).toNat : Nat) : Int) = 48 := by simpa using c3
            show (r.getD 0 0).toNat = 48
            omega
        · exact .inr (.inl ⟨c1, c2⟩)
      · exact .inr (.inr c1)
    clear e2 hz hQ hg hC hb1
    have hcase2 : (∃ h : 1 < R.size, ((b : Int) == 10) = true ∧ (((R[0]'(by omega)).toNat : Int) == 48) = false) ∨ (((b : Int) == 10) = true ∧ ¬ (1 < R.size)) ∨ ((b : Int) == 10) = false := by
      rcases hcase with ⟨c1, z1, z2⟩ | ⟨c1, z1⟩ | z1
      · exact .inl ⟨z1, by rw [c1]; rfl, z2⟩
      · exact .inr (.inl ⟨by rw [c1]; rfl, z1⟩)
      · exact .inr (.inr (by simp; omega))
    clear hcase
    rcases hcase2 with ⟨z1, z2, z3⟩ | ⟨z1, z2⟩ | z1
    all_goals
      go_wp2_with fail
      clear hconv
      go_loop [7, 8, 9, 45] (fun nv ov yv iv => ∃ (k n : Nat) (o y : Int), nv = .int .u64 n ∧ ov = .int .u64 o ∧ yv = .int .u8 y ∧ iv = .int .i64 k ∧ k ≤ R.size ∧ n < 18446744073709551616 ∧ 0 ≤ y ∧ y < 256 ∧ Hid (numLoop b ((intsNm r).drop k) y n o = Q))
        (fun _ _ _ iv => R.size - (intOf iv).toNat)
      case atStart => exact ⟨0, 0, 0, 95, rfl, rfl, rfl, rfl, Nat.zero_le _, by decide, by decide, by decide, by rw [List.drop_zero]; exact HQ.out.symm⟩
      case round =>
        obtain ⟨k, n, o, y, rfl, rfl, rfl, rfl, hk, hn, hy0, hy1, hq⟩ := hrel
        by_cases hkl : k < R.size
        · have hkd : k < R.data.size := hkl
          have hcell := HC.out k hkd
          have hkr : k < (intsNm r).length := by unfold intsNm; rw [List.length_map, ← HRS.out]; exact hkl
          have hdrop := ints_drop R r HRL.out k hkd
          have hxlt := UInt8.toNat_lt (R.data[k])
          obtain ⟨x, hx⟩ : ∃ x : Nat, x = R.data[k].toNat := ⟨_, rfl⟩
          rw [← hx] at hcell hdrop hxlt
          have hst := hq.out
          rw [hdrop, numLoop] at hst
          clear hdrop hx hkr
          have HD := Lib.hid (fun w => digit_any (x : Int) w (by omega) (by omega))
          unfold DigitPost at HD
          have hdl := digitOf_le (x : Int)
          obtain ⟨d, hd⟩ : ∃ d, d = digitOf (x : Int) := ⟨_, rfl⟩
          rw [← hd] at HD hst hdl
          clear hd
          obtain ⟨hd0, hd99⟩ := hdl
          by_cases hx95 : x = 95
          · subst hx95
            by_cases hy95 : y = 95
            · subst hy95
              have hQ : Q = none := by rw [← hst]; rfl
              have HQQ := Lib.hid hQ
              clear hst hQ
              go_wp2_with fail
              go_ret2
              exact ⟨by rw [E2.out, HQQ.out]; rfl, hb2⟩
            · have hq2 : Hid (numLoop b ((intsNm r).drop (k + 1)) 95 n o = Q) := by
                show _ = _
                rw [← hst, if_pos (show ((95 : Nat) : Int) = 95 from rfl), if_neg hy95]
              have hyb : (y == 95) = false := by simpa using hy95
              clear hst
              go_wp2_with fail
              go_round
              case rel => exact ⟨k + 1, n, o, 95, rfl, rfl, rfl, by go_num, hkl, hn, by decide, by decide, hq2⟩
              case measure => simp [intOf]; omega
          · have hxb : ((x : Int) == 95) = false := by simp; omega
            rw [if_neg (show ¬ ((x : Int) = 95) by omega)] at hst
            by_cases hdb : (b : Int) ≤ d
            · have hQ : Q = none := by rw [← hst, if_pos hdb]
              have HQQ := Lib.hid hQ
              have hdbd : decide ((b : Int) ≤ d) = true := decide_eq_true hdb
              clear hst hQ
              go_wp2_with fail
              refine (HD.out _).mono ?_
              rintro e v1 ⟨rfl, rfl⟩
              go_wp2_with fail
              go_ret2
              exact ⟨by rw [E2.out, HQQ.out]; rfl, hb2⟩
            · have hdbd : decide ((b : Int) ≤ d) = false := decide_eq_false hdb
              rw [if_neg hdb] at hst
              have hst2 : numLoop b ((intsNm r).drop (k + 1)) x (numStep b n o d).1 (numStep b n o d).2 = Q := hst
              have hnl := numStep_lt b n o d
              unfold numStep at hst2 hnl
              have hm := fun w => Tryz.bits_Mul64 n b hn (by omega) w
              obtain ⟨lo, hlo⟩ : ∃ lo, lo = n * b % 18446744073709551616 := ⟨_, rfl⟩
              obtain ⟨hi, hhi⟩ : ∃ hi, hi = n * b / 18446744073709551616 := ⟨_, rfl⟩
              simp only [← hlo, ← hhi] at hm hst2 hnl
              have hadd := add64_run (lo : Int) d (by omega) hd0
              obtain ⟨S, hS⟩ : ∃ S : Nat, (S : Int) = ((lo : Int) + d + 0) % 18446744073709551616 := ⟨(((lo : Int) + d + 0) % 18446744073709551616).toNat, by omega⟩
              obtain ⟨cy, hcy⟩ : ∃ cy, cy = ((lo : Int) + d + 0) / 18446744073709551616 := ⟨_, rfl⟩
              rw [← hS, Int.toNat_natCast] at hst2 hnl
              rw [← hcy] at hst2
              rw [← hS, ← hcy] at hadd
              have HM := Lib.hid hm
              have HST := Lib.hid hst2
              have hAdd := hadd
              clear hlo hhi hm hst2 hadd hS hcy
              clear hst
              go_wp2_with fail
              refine (HD.out _).mono ?_
              rintro e v1 ⟨rfl, rfl⟩
              go_wp2_with fail
              refine (HM.out _).mono ?_
              rintro e v1 ⟨rfl, rfl⟩
              go_wp2_with fail
              refine (HD.out _).mono ?_
              rintro e v1 ⟨rfl, rfl⟩
              go_wp2_with fail
              go_round
              case rel => exact ⟨k + 1, S, _, x, rfl, rfl, rfl, by go_num, hkl, hnl, by omega, by omega, HST⟩
              case measure => simp [intOf]; omega
        · have hk2 : k = R.size := by omega
          have hnil : (intsNm r).drop k = [] := by
            refine List.drop_eq_nil_of_le ?_
            unfold intsNm
            rw [List.length_map, ← HRS.out, hk2]; exact Nat.le_refl _
          have hQ := hq.out
          rw [hnil, numLoop] at hQ
          have HQQ := Lib.hid hQ
          clear hnil hQ
          subst hk2
          by_cases hy95 : y = 95
          · subst hy95
            have hE : readEnd mi Q = (0, 4) := by rw [← HQQ.out]; rfl
            have HE := Lib.hid hE
            clear hE
            cases mi with
            | true =>
              go_wp2_with fail
              go_ret2
              exact ⟨by rw [E2.out, HE.out]; rfl, hb2⟩
            | false =>
              go_wp2_with fail
              go_ret2
              exact ⟨by rw [E2.out, HE.out]; rfl, hb2⟩
          · have hyb : (y == 95) = false := by simpa using hy95
            by_cases ho : 0 < o
            · have hE : readEnd mi Q = (0, 7) := by rw [← HQQ.out]; unfold readEnd; simp only; rw [if_neg hy95, if_pos (.inl ho)]
              have HE := Lib.hid hE
              have hod : decide (0 < o) = true := decide_eq_true ho
              clear hE
              cases mi with
              | true =>
                go_wp2_with fail
                go_ret2
                exact ⟨by rw [E2.out, HE.out]; rfl, hb2⟩
              | false =>
                go_wp2_with fail
                go_ret2
                exact ⟨by rw [E2.out, HE.out]; rfl, hb2⟩
            · have hod : decide (0 < o) = false := decide_eq_false ho
              cases mi with
              | true =>
                by_cases hlim : 9223372036854775808 < n
                · have hE : readEnd true Q = (0, 7) := by rw [← HQQ.out]; unfold readEnd; simp only; rw [if_neg hy95, if_pos (.inr hlim)]
                  have HE := Lib.hid hE
                  have hld : decide ((9223372036854775808 : Int) < (n : Int)) = true := decide_eq_true (by omega)
                  clear hE
                  go_wp2_with fail
                  go_ret2
                  exact ⟨by rw [E2.out, HE.out]; rfl, hb2⟩
                · have hE : readEnd true Q = (-(n : Int), 0) := by
                    rw [← HQQ.out]; unfold readEnd; simp only; rw [if_neg hy95, if_neg (by intro h; rcases h with h | h; exact ho h; exact hlim h)]; rfl
                  have HE := Lib.hid hE
                  have hld : decide ((9223372036854775808 : Int) < (n : Int)) = false := decide_eq_false (by omega)
                  have hcv : wrap64 (-wrap64 (n : Int)) = -(n : Int) := by unfold wrap64; omega
                  have HCV := Lib.hid hcv
                  clear hE hcv
                  go_wp2_with fail
                  go_ret2
                  refine ⟨?_, hb2⟩
                  rw [E2.out, HE.out]
                  show Ending.returned (Value.tuple #[Value.int .i64 (wrap64 (-wrap64 (n : Int))), Value.int .i64 0]) = _
                  rw [HCV.out]
              | false =>
                by_cases hlim : 9223372036854775807 < n
                · have hE : readEnd false Q = (0, 7) := by rw [← HQQ.out]; unfold readEnd; simp only; rw [if_neg hy95, if_pos (.inr hlim)]
                  have HE := Lib.hid hE
                  have hld : decide ((9223372036854775807 : Int) < (n : Int)) = true := decide_eq_true (by omega)
                  clear hE
                  go_wp2_with fail
                  go_ret2
                  exact ⟨by rw [E2.out, HE.out]; rfl, hb2⟩
                · have hE : readEnd false Q = ((n : Int), 0) := by
                    rw [← HQQ.out]; unfold readEnd; simp only; rw [if_neg hy95, if_neg (by intro h; rcases h with h | h; exact ho h; exact hlim h)]; rfl
                  have HE := Lib.hid hE
                  have hld : decide ((9223372036854775807 : Int) < (n : Int)) = false := decide_eq_false (by omega)
                  have hcv : IntKind.i64.wrap (n : Int) = (n : Int) := by rw [IntKind.wrap_i64]; omega
                  clear hE
                  go_wp2_with fail
                  go_ret2
                  exact ⟨by rw [E2.out, HE.out]; rfl, hb2⟩
end Go.Proofs.YtldhmfkojaekfaaGreatDoor
namespace Go.Proofs.YtldhmfkojaekfaaGreatDoor
open Go.RowKit Gx
set_option maxRecDepth 100000
def DigitsPost (l : List UInt8) (w : World) (e : Ending) (w' : World) : Prop :=
  ∃ a b : ByteArray, e = .returned (.tuple #[.string a, .string b]) ∧ a.data.toList = l.takeWhile isDigit ∧ b.data.toList = l.dropWhile isDigit ∧ Below w.heap.size w w'

theorem tw_at (l : List UInt8) (k : Nat) (h : ∀ b ∈ l.take k, isDigit b = true) (h2 : ∀ b, (l.drop k).head? = some b → isDigit b = false) : l.takeWhile isDigit = l.take k ∧ l.dropWhile isDigit = l.drop k := by
  have := tw_split (l.take k) (l.drop k) h h2
  rwa [List.take_append_drop] at this
theorem digit_iff (b : UInt8) : isDigit b = true ↔ 48 ≤ (b.toNat : Int) ∧ (b.toNat : Int) ≤ 57 := by
  unfold isDigit
  simp only [Bool.and_eq_true, decide_eq_true_eq]
  omega
theorem digits_end (s : ByteArray) (k : Nat) (hk : k ≤ s.size) (h : ∀ b ∈ s.data.toList.take k, isDigit b = true) (h2 : ∀ h : k < s.size, isDigit s[k] = false) (w w' : World) (hb : Below w.heap.size w w') :
    DigitsPost s.data.toList w (.returned (.tuple #[.string (s.extract 0 k), .string (s.extract k s.size)])) w' := by
  have hd : ∀ b, (s.data.toList.drop k).head? = some b → isDigit b = false := by
    intro b hb
    rcases Nat.lt_or_ge k s.size with h3 | h3
    · have e : s.data.toList.drop k = s[k] :: s.data.toList.drop (k + 1) := by
        rw [List.drop_eq_getElem_cons (by rw [← Lib.size_eq]; exact h3)]; rfl
      rw [e] at hb
      have : b = s[k] := by simpa using hb.symm
      rw [this]; exact h2 h3
    · rw [List.drop_eq_nil_of_le (by rw [← Lib.size_eq]; exact h3)] at hb
      simp at hb
  obtain ⟨e1, e2⟩ := tw_at _ k h hd
  exact ⟨_, _, rfl, by rw [Lib.extract_data, e1, List.drop_zero, Nat.sub_zero], by rw [Lib.extract_to_end, e2], hb⟩
theorem digits_step (s : ByteArray) (k : Nat) (hk : k < s.size) (h : ∀ b ∈ s.data.toList.take k, isDigit b = true) (h2 : isDigit s[k] = true) : ∀ b ∈ s.data.toList.take (k + 1), isDigit b = true := by
  have e : s.data.toList.take (k + 1) = s.data.toList.take k ++ [s[k]] := by
    rw [List.take_succ_eq_append_getElem (by rw [← Lib.size_eq]; exact hk)]; rfl
  rw [e]
  intro b hb
  rcases List.mem_append.1 hb with hb | hb
  · exact h b hb
  · rw [List.mem_singleton.1 hb]; exact h2

set_option maxHeartbeats 1000000 in
theorem digits_any (s : ByteArray) (w : World) (hs : s.size ≤ 1000) : Calls Tryz.prog 142 #[.string s] w (DigitsPost s.data.toList w) := by
  have HE := Lib.hid (fun k hk h h2 w' hb => digits_end s k hk h h2 w w' hb)
  have HST := Lib.hid (fun k hk h h2 => digits_step s k hk h h2)
  generalize DigitsPost s.data.toList w = POST at *
  go_enter Tryz.func142, Tryz.ntmps142
  go_wp2
  go_loop [4] (fun i => ∃ k : Nat, k ≤ s.size ∧ i = .int .i64 k ∧ Hid (∀ b ∈ s.data.toList.take k, isDigit b = true)) (fun i => s.size - (intOf i).toNat)
  case atStart => exact ⟨0, Nat.zero_le _, rfl, (by show ∀ b ∈ _, _; simp)⟩
  case round =>
    obtain ⟨k, hk, rfl, hd⟩ := hrel
    obtain ⟨k0, k1⟩ : 0 ≤ (k : Int) ∧ (k : Int) ≤ (s.size : Int) := by omega
    by_cases hlt : k < s.size
    · have hi := digit_iff s[k]
      cases hc : isDigit s[k] with
      | true =>
        obtain ⟨h1, h2⟩ := hi.1 hc
        have HN := Lib.hid (HST.out k hlt hd.out hc)
        clear hi hc hd
        go_wp2
        go_round
        case rel => exact ⟨k + 1, by omega, by go_num, HN⟩
        case measure => simp [intOf]; omega
      | false =>
        have hno : (s[k].toNat : Int) < 48 ∨ 57 < (s[k].toNat : Int) := by
          have : ¬ (48 ≤ (s[k].toNat : Int) ∧ (s[k].toNat : Int) ≤ 57) := fun h => by rw [hi.2 h] at hc; cases hc
          omega
        have HN := Lib.hid (fun w' hb => HE.out k hk hd.out (fun _ => hc) w' hb)
        clear hi hc hd
        rcases hno with h1 | h1
        · have h2 : ¬ 48 ≤ (s[k].toNat : Int) := by omega
          go_wp2
          go_quiet (fail)
          go_wp2
          exact HN.out _ (Gx.drewN_below _ _ _)
        · have h2 : ¬ (s[k].toNat : Int) ≤ 57 := by omega
          have h3 : 48 ≤ (s[k].toNat : Int) := by omega
          go_wp2
          go_quiet (fail)
          go_wp2
          exact HN.out _ (Gx.drewN_below _ _ _)
    · have HN := Lib.hid (fun w' hb => HE.out k hk hd.out (fun h => absurd h hlt) w' hb)
      clear hd
      go_wp2
      go_quiet (fail)
      go_wp2
      exact HN.out _ (Gx.drewN_below _ _ _)
end Go.Proofs.YtldhmfkojaekfaaGreatDoor
