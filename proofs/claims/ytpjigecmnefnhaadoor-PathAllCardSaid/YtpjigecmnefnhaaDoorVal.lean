/-
  Values: trees, and how they lie in memory. No conditions.
-/
import Derived.Test.YtpjigecmnefnhaaDoorGx
import Derived.Below
namespace Go.Proofs.YtpjigecmnefnhaaDoor
open Go.RowKit Gx

/-- a value -/
inductive V where
  | mk (k n f : Int) (s : ByteArray) (l : List V) (e : List (ByteArray × V))
namespace V
def k : V → Int | .mk k _ _ _ _ _ => k
def n : V → Int | .mk _ n _ _ _ _ => n
def f : V → Int | .mk _ _ f _ _ _ => f
def s : V → ByteArray | .mk _ _ _ s _ _ => s
def l : V → List V | .mk _ _ _ _ l _ => l
def e : V → List (ByteArray × V) | .mk _ _ _ _ _ e => e
def zero : V := .mk 0 0 0 ⟨#[]⟩ [] []
instance : Inhabited V := ⟨zero⟩
theorem eta (v : V) : v = .mk v.k v.n v.f v.s v.l v.e := by cases v; rfl
theorem ext' {v w : V} (h1 : v.k = w.k) (h2 : v.n = w.n) (h3 : v.f = w.f) (h4 : v.s = w.s) (h5 : v.l = w.l) (h6 : v.e = w.e) : v = w := by
  rw [eta v, eta w, h1, h2, h3, h4, h5, h6]
theorem lt_l {v x : V} (h : x ∈ v.l) : SizeOf.sizeOf x < SizeOf.sizeOf v := by
  cases v with | mk k n f s l e =>
  have := List.sizeOf_lt_of_mem (show x ∈ l from h)
  simp; omega
theorem lt_e {v : V} {x : ByteArray × V} (h : x ∈ v.e) : SizeOf.sizeOf x.2 < SizeOf.sizeOf v := by
  cases v with | mk k n f s l e =>
  have := List.sizeOf_lt_of_mem (show x ∈ e from h)
  obtain ⟨a, b⟩ := x
  simp at this ⊢; omega
theorem ind {P : V → Prop} (h : ∀ v : V, (∀ x ∈ v.l, P x) → (∀ x ∈ v.e, P x.2) → P v) : ∀ v, P v := by
  have : ∀ n (v : V), SizeOf.sizeOf v ≤ n → P v := by
    intro n
    induction n with
    | zero => intro v hv; cases v; simp at hv
    | succ n ih => exact fun v hv => h v (fun x hx => ih x (by have := lt_l hx; omega)) (fun x hx => ih x.2 (by have := lt_e hx; omega))
  exact fun v => this _ v (Nat.le_refl _)
/-- its own numbers are such, its text is not too long -/
structure wf (v : V) : Prop where
  k0 : -9223372036854775808 ≤ v.k
  k1 : v.k ≤ 9223372036854775807
  n0 : -9223372036854775808 ≤ v.n
  n1 : v.n ≤ 9223372036854775807
  f0 : 0 ≤ v.f
  f1 : v.f ≤ 18446744073709551615
  s1 : v.s.size ≤ 140737488351232
theorem wf_zero : zero.wf := ⟨by decide, by decide, by decide, by decide, by decide, by decide, by decide⟩
end V
/-- a value, and where its parts lie -/
structure Loc where
  v : V
  ad : Option Addr
  cap : Nat
  bd : Option Addr
  dap : Nat
instance : Inhabited Loc := ⟨⟨.zero, none, 0, none, 0⟩⟩
def Loc.sl (q : Loc) : Value := .slice q.ad q.v.l.length q.cap
def Loc.se (q : Loc) : Value := .slice q.bd q.v.e.length q.dap
/-- its cells -/
def Loc.cs (q : Loc) : List Value := [.int .i64 q.v.k, .int .i64 q.v.n, .int .u64 q.v.f, .string q.v.s, .slice q.ad q.v.l.length q.cap, .slice q.bd q.v.e.length q.dap]
/-- as it stands -/
def Loc.val (q : Loc) : Value := .agg #[.int .i64 q.v.k, .int .i64 q.v.n, .int .u64 q.v.f, .string q.v.s, .slice q.ad q.v.l.length q.cap, .slice q.bd q.v.e.length q.dap]
structure CellsAt (w : World) (b o : Nat) (q : Loc) : Prop where
  c0 : w.cell? ⟨b, o, none⟩ = some (.int .i64 q.v.k)
  c1 : w.cell? ⟨b, o + 1, none⟩ = some (.int .i64 q.v.n)
  c2 : w.cell? ⟨b, o + 2, none⟩ = some (.int .u64 q.v.f)
  c3 : w.cell? ⟨b, o + 3, none⟩ = some (.string q.v.s)
  c4 : w.cell? ⟨b, o + 4, none⟩ = some (.slice q.ad q.v.l.length q.cap)
  c5 : w.cell? ⟨b, o + 5, none⟩ = some (.slice q.bd q.v.e.length q.dap)
theorem CellsAt.through {w w' : World} {b o : Nat} {q : Loc} (h : CellsAt w b o q) (hb : w'.heap[b]? = w.heap[b]?) : CellsAt w' b o q := by
  have hq : ∀ o, w'.cell? ⟨b, o, none⟩ = w.cell? ⟨b, o, none⟩ := fun o => World.cell?_of_block hb
  exact ⟨(hq _).trans h.c0, (hq _).trans h.c1, (hq _).trans h.c2, (hq _).trans h.c3, (hq _).trans h.c4, (hq _).trans h.c5⟩
/-- a value in a block of its own -/
theorem CellsAt.box {w : World} {b : Nat} {q : Loc} {ty : TypeId} (h : w.heap[b]? = some (.cells q.cs.toArray ty)) : CellsAt w b 0 q := by
  constructor <;> simp [World.cell?, h, Loc.cs]
/-- the parts of a list, as entries -/
def lp (l : List V) : List (ByteArray × V) := l.map fun x => (⟨#[]⟩, x)
theorem lp_len (l : List V) : (lp l).length = l.length := by simp [lp]
theorem lp_get {l : List V} {i : Nat} {x : V} (h : l[i]? = some x) : (lp l)[i]? = some (⟨#[]⟩, x) := by simp [lp, h]
theorem lp_get' {l : List V} {i : Nat} {x : ByteArray × V} (h : (lp l)[i]? = some x) : x.1 = ⟨#[]⟩ ∧ l[i]? = some x.2 := by
  simp only [lp, List.getElem?_map, Option.map_eq_some_iff] at h
  obtain ⟨a, h1, rfl⟩ := h
  exact ⟨rfl, h1⟩
theorem lp_inj {l m : List V} (h : lp l = lp m) : l = m := by
  have := congrArg (List.map Prod.snd) h
  simpa [lp, Function.comp_def] using this

/-- how wide an element is; where its value begins -/
def st (t : Bool) : Nat := if t then 7 else 6
def fd (t : Bool) : Nat := if t then 1 else 0
/-- parts (t: entries) in memory, in blocks of B's alone -/
inductive RowAt (w : World) (B : Nat → Prop) : Bool → List (ByteArray × V) → Value → Prop
  | nil (t : Bool) (ad : Option Addr) (cap : Nat) : RowAt w B t [] (.slice ad 0 cap)
  | row (t : Bool) (xs : List (ByteArray × V)) (blk off cap : Nat) (sl se : Nat → Value) (hne : xs ≠ []) (hn : xs.length * (st t * 16 - 8) ≤ 140737488351232) (hB : B blk) (hlt : blk < w.heap.size)
    (hk : t = true → ∀ i x, xs[i]? = some x → w.cell? ⟨blk, off + i * 7, none⟩ = some (.string x.1) ∧ x.1.size ≤ 140737488351232)
    (hc : ∀ i x, xs[i]? = some x → x.2.wf ∧ w.cell? ⟨blk, off + i * st t + fd t, none⟩ = some (.int .i64 x.2.k) ∧ w.cell? ⟨blk, off + i * st t + fd t + 1, none⟩ = some (.int .i64 x.2.n) ∧
      w.cell? ⟨blk, off + i * st t + fd t + 2, none⟩ = some (.int .u64 x.2.f) ∧ w.cell? ⟨blk, off + i * st t + fd t + 3, none⟩ = some (.string x.2.s) ∧
      w.cell? ⟨blk, off + i * st t + fd t + 4, none⟩ = some (sl i) ∧ w.cell? ⟨blk, off + i * st t + fd t + 5, none⟩ = some (se i))
    (hl : ∀ i x, xs[i]? = some x → RowAt w B false (lp x.2.l) (sl i)) (he : ∀ i x, xs[i]? = some x → RowAt w B true x.2.e (se i)) :
    RowAt w B t xs (.slice (some ⟨blk, off, none⟩) xs.length cap)
/-- a value whose parts lie in memory -/
structure VAt (w : World) (B : Nat → Prop) (q : Loc) : Prop where
  wf : q.v.wf
  l : RowAt w B false (lp q.v.l) (.slice q.ad q.v.l.length q.cap)
  e : RowAt w B true q.v.e (.slice q.bd q.v.e.length q.dap)

theorem RowAt.through {w w' : World} {B C : Nat → Prop} {t : Bool} {xs : List (ByteArray × V)} {v : Value} (h : RowAt w B t xs v) (hs : w.heap.size ≤ w'.heap.size)
    (hb : ∀ b, B b → b < w.heap.size → w'.heap[b]? = w.heap[b]?) (hC : ∀ b, B b → b < w.heap.size → C b) : RowAt w' C t xs v := by
  induction h with
  | nil t ad cap => exact .nil t ad cap
  | row t xs blk off cap sl se hne hn hB hlt hk hc hl he ihl ihe =>
    have hq : ∀ o, w'.cell? ⟨blk, o, none⟩ = w.cell? ⟨blk, o, none⟩ := fun o => World.cell?_of_block (hb blk hB hlt)
    refine .row t xs blk off cap sl se hne hn (hC _ hB hlt) (Nat.lt_of_lt_of_le hlt hs) (fun ht i x hi => ?_) (fun i x hi => ?_) ihl ihe
    · rw [hq]; exact hk ht i x hi
    · rw [hq, hq, hq, hq, hq, hq]; exact hc i x hi
theorem RowAt.weak {w : World} {B C : Nat → Prop} {t : Bool} {xs : List (ByteArray × V)} {v : Value} (h : RowAt w B t xs v) (hC : ∀ b, B b → b < w.heap.size → C b) : RowAt w C t xs v :=
  h.through (Nat.le_refl _) (fun _ _ _ => rfl) hC
theorem RowAt.keep {w w' : World} {B : Nat → Prop} {t : Bool} {xs : List (ByteArray × V)} {v : Value} (h : RowAt w B t xs v) (hb : Below w.heap.size w w') : RowAt w' B t xs v :=
  h.through hb.size (fun b _ hl => hb.block b hl) (fun _ h _ => h)
theorem RowAt.grow {w w' : World} {B : Nat → Prop} {t : Bool} {xs : List (ByteArray × V)} {v : Value} {row : Option Nat} (h : RowAt w B t xs v) (hg : w.grownBy w' row) (hr : ∀ b, row = some b → ¬ B b) : RowAt w' B t xs v :=
  h.through hg.size (fun b hB hl => hg.block b hl (fun e => hr b e.symm hB)) (fun _ h _ => h)
theorem RowAt.len {w : World} {B : Nat → Prop} {t : Bool} {xs : List (ByteArray × V)} {v : Value} (h : RowAt w B t xs v) : ∃ ad cap, v = .slice ad xs.length cap := by
  cases h with
  | nil t ad cap => exact ⟨ad, cap, rfl⟩
  | row t xs blk off cap => exact ⟨_, cap, rfl⟩
theorem RowAt.bound {w : World} {B : Nat → Prop} {t : Bool} {xs : List (ByteArray × V)} {v : Value} (h : RowAt w B t xs v) : xs.length * (st t * 16 - 8) ≤ 140737488351232 := by
  cases h with
  | nil t ad cap => simp
  | row t xs blk off cap sl se hne hn => exact hn
theorem RowAt.llen {w : World} {B : Nat → Prop} {l : List V} {v : Value} (h : RowAt w B false (lp l) v) : ∃ ad cap, v = .slice ad l.length cap := by
  have := h.len; rw [lp_len] at this; exact this
/-- an element of a list -/
theorem RowAt.elem {w : World} {B : Nat → Prop} {l : List V} {ad : Option Addr} {n cap : Nat} (h : RowAt w B false (lp l) (.slice ad n cap)) (hl : 0 < l.length) : ∃ b off, ad = some ⟨b, off, none⟩ ∧ B b ∧ b < w.heap.size ∧
    ∀ i x, l[i]? = some x → ∃ q : Loc, q.v = x ∧ VAt w B q ∧ CellsAt w b (off + i * 6) q := by
  generalize hx : lp l = xs at h
  generalize hv : Value.slice ad n cap = v at h
  generalize ht : false = t at h
  cases h with
  | nil t ad cap => have := congrArg List.length hx; rw [lp_len, List.length_nil] at this; omega
  | row t xs blk off cap sl se hne hn hB hlt hk hc hl he =>
    subst hx
    subst ht
    simp only [Value.slice.injEq] at hv
    obtain ⟨rfl, rfl, rfl⟩ := hv
    refine ⟨blk, off, rfl, hB, hlt, fun i x hi => ?_⟩
    obtain ⟨h0, h1, h2, h3, h4, h5, h6⟩ := hc i _ (lp_get hi)
    have hl' := hl i _ (lp_get hi)
    have he' := he i _ (lp_get hi)
    obtain ⟨a1, c1, e1⟩ := hl'.llen
    obtain ⟨a2, c2, e2⟩ := he'.len
    rw [e1] at h5 hl'
    rw [e2] at h6 he'
    exact ⟨⟨x, a1, c1, a2, c2⟩, rfl, ⟨h0, hl', he'⟩, h1, h2, h3, h4, h5, h6⟩
/-- an entry of a table -/
theorem RowAt.entry {w : World} {B : Nat → Prop} {l : List (ByteArray × V)} {ad : Option Addr} {n cap : Nat} (h : RowAt w B true l (.slice ad n cap)) (hl : 0 < l.length) : ∃ b off, ad = some ⟨b, off, none⟩ ∧ B b ∧ b < w.heap.size ∧
    ∀ i x, l[i]? = some x → x.1.size ≤ 140737488351232 ∧ w.cell? ⟨b, off + i * 7, none⟩ = some (.string x.1) ∧ ∃ q : Loc, q.v = x.2 ∧ VAt w B q ∧ CellsAt w b (off + i * 7 + 1) q := by
  generalize hv : Value.slice ad n cap = v at h
  generalize ht : true = t at h
  cases h with
  | nil t ad cap => simp at hl
  | row t xs blk off cap sl se hne hn hB hlt hk hc hl he =>
    subst ht
    simp only [Value.slice.injEq] at hv
    obtain ⟨rfl, rfl, rfl⟩ := hv
    refine ⟨blk, off, rfl, hB, hlt, fun i x hi => ?_⟩
    obtain ⟨h0, h1, h2, h3, h4, h5, h6⟩ := hc i _ hi
    obtain ⟨k1, k2⟩ := hk rfl i x hi
    have hl' := hl i _ hi
    have he' := he i _ hi
    obtain ⟨a1, c1, e1⟩ := hl'.llen
    obtain ⟨a2, c2, e2⟩ := he'.len
    rw [e1] at h5 hl'
    rw [e2] at h6 he'
    exact ⟨k2, k1, ⟨x.2, a1, c1, a2, c2⟩, rfl, ⟨h0, hl', he'⟩, h1, h2, h3, h4, h5, h6⟩
/-- the cells of an entry, one by one -/
theorem CellsAt.seven {w : World} {b o : Nat} {q : Loc} (h : CellsAt w b (o + 1) q) : w.cell? ⟨b, o + 1, none⟩ = some (.int .i64 q.v.k) ∧ w.cell? ⟨b, o + 2, none⟩ = some (.int .i64 q.v.n) ∧ w.cell? ⟨b, o + 3, none⟩ = some (.int .u64 q.v.f) ∧
    w.cell? ⟨b, o + 4, none⟩ = some (.string q.v.s) ∧ w.cell? ⟨b, o + 5, none⟩ = some (.slice q.ad q.v.l.length q.cap) ∧ w.cell? ⟨b, o + 6, none⟩ = some (.slice q.bd q.v.e.length q.dap) := h.casesOn fun a b c d e f => ⟨a, b, c, d, e, f⟩
theorem RowAt.lbound {w : World} {B : Nat → Prop} {l : List V} {v : Value} (h : RowAt w B false (lp l) v) : l.length * 88 ≤ 140737488351232 := by
  have := h.bound; rw [lp_len] at this; simpa [st] using this
theorem RowAt.ebound {w : World} {B : Nat → Prop} {l : List (ByteArray × V)} {v : Value} (h : RowAt w B true l v) : l.length * 104 ≤ 140737488351232 := by
  have := h.bound; simpa [st] using this
variable {w w' : World} {B C : Nat → Prop} {q : Loc}
theorem VAt.through (h : VAt w B q) (hs : w.heap.size ≤ w'.heap.size) (hb : ∀ b, B b → b < w.heap.size → w'.heap[b]? = w.heap[b]?) (hC : ∀ b, B b → b < w.heap.size → C b) : VAt w' C q :=
  ⟨h.wf, h.l.through hs hb hC, h.e.through hs hb hC⟩
theorem VAt.weak (h : VAt w B q) (hC : ∀ b, B b → b < w.heap.size → C b) : VAt w C q := ⟨h.wf, h.l.weak hC, h.e.weak hC⟩
theorem VAt.keep (h : VAt w B q) (hb : Below w.heap.size w w') : VAt w' B q := ⟨h.wf, h.l.keep hb, h.e.keep hb⟩
theorem VAt.grow {row : Option Nat} (h : VAt w B q) (hg : w.grownBy w' row) (hr : ∀ b, row = some b → ¬ B b) : VAt w' B q := ⟨h.wf, h.l.grow hg hr, h.e.grow hg hr⟩
theorem VAt.zero (w : World) (B : Nat → Prop) (a b : Option Addr) (c d : Nat) : VAt w B ⟨.zero, a, c, b, d⟩ := ⟨V.wf_zero, .nil _ _ _, .nil _ _ _⟩
end Go.Proofs.YtpjigecmnefnhaaDoor
