/-
  A hub in memory: its block, its clients' row, its log's row; what leaves it alone. No conditions.
-/
import Derived.Test.YtaibpnblnigkgaaPart
namespace Go.Proofs.Ytaibpnblnigkgaa
open Go.RowKit Gx

/-- a change that there may be, and where it lies -/
structure Mb where
  is : Bool
  l : List Part
  ad : Option Addr
  cap : Nat
structure Cl where
  text : ByteArray
  seen : Nat
  sent : Mb
  held : Mb
structure Lg where
  who : Int
  l : List Part
  ad : Option Addr
  cap : Nat
structure Hb where
  main : ByteArray
  log : List Lg
  lv : Value
  cls : List Cl
def Mb.none : Mb := ⟨false, [], .none, 0⟩
def Mb.cells (m : Mb) : List Value := [.bool m.is, .slice m.ad m.l.length m.cap]
def Cl.cells (c : Cl) : List Value := [.string c.text, .int .i64 c.seen, .bool c.sent.is, .slice c.sent.ad c.sent.l.length c.sent.cap, .bool c.held.is, .slice c.held.ad c.held.l.length c.held.cap]
def logCells : List Lg → List Value
  | [] => []
  | e :: r => .int .i64 e.who :: .slice e.ad e.l.length e.cap :: logCells r
theorem logCells_length : ∀ l : List Lg, (logCells l).length = l.length * 2
  | [] => rfl
  | e :: r => by simp [logCells, logCells_length r]; omega
theorem logCells_append : ∀ l m : List Lg, logCells (l ++ m) = logCells l ++ logCells m
  | [], m => rfl
  | e :: r, m => by simp [logCells, logCells_append r m]
theorem logCells_get : ∀ (l : List Lg) (i : Nat) (e : Lg), l[i]? = some e → (logCells l)[i * 2]? = some (.int .i64 e.who) ∧ (logCells l)[i * 2 + 1]? = some (.slice e.ad e.l.length e.cap)
  | [], i, e, h => by simp at h
  | q :: l, 0, e, h => by
    obtain rfl : q = e := by simpa using h
    exact ⟨rfl, rfl⟩
  | q :: l, i + 1, e, h => by
    obtain ⟨a, b⟩ := logCells_get l i e (by simpa using h)
    rw [show (i + 1) * 2 = i * 2 + 2 by omega]
    exact ⟨a, b⟩

/-! the clients' row -/
def Row (w : World) (C : Nat) (cls : List Cl) : Prop := ∃ (arr : Array Value) (ty : TypeId), w.heap[C]? = some (.cells arr ty) ∧ ∀ i c, cls[i]? = some c → ∀ k v, c.cells[k]? = some v → arr[i * 6 + k]? = some v
theorem Row.lt {w : World} {C : Nat} {cls : List Cl} (h : Row w C cls) : C < w.heap.size := by
  obtain ⟨arr, ty, h1, -⟩ := h
  exact (Array.getElem?_eq_some_iff.1 h1).1
theorem Row.cell {w : World} {C : Nat} {cls : List Cl} (h : Row w C cls) {i : Nat} {c : Cl} (hi : cls[i]? = some c) : w.cell? ⟨C, i * 6, none⟩ = some (.string c.text) ∧ w.cell? ⟨C, i * 6 + 1, none⟩ = some (.int .i64 c.seen) ∧
    w.cell? ⟨C, i * 6 + 2, none⟩ = some (.bool c.sent.is) ∧ w.cell? ⟨C, i * 6 + 3, none⟩ = some (.slice c.sent.ad c.sent.l.length c.sent.cap) ∧ w.cell? ⟨C, i * 6 + 4, none⟩ = some (.bool c.held.is) ∧ w.cell? ⟨C, i * 6 + 5, none⟩ = some (.slice c.held.ad c.held.l.length c.held.cap) ∧
    ∀ j, w.frozen? ⟨C, j, none⟩ = false := by
  obtain ⟨arr, ty, h1, h2⟩ := h
  have h3 : ∀ k v, c.cells[k]? = some v → w.cell? ⟨C, i * 6 + k, none⟩ = some v := fun k v hk => by
    have := h2 i c hi k v hk
    simp [World.cell?, h1, this]
  exact ⟨h3 0 _ rfl, h3 1 _ rfl, h3 2 _ rfl, h3 3 _ rfl, h3 4 _ rfl, h3 5 _ rfl, fun j => by simp [World.frozen?, h1]⟩
theorem Row.keep {w w' : World} {C : Nat} {cls : List Cl} (h : Row w C cls) (hb : w'.heap[C]? = w.heap[C]?) : Row w' C cls := by
  obtain ⟨arr, ty, h1, h2⟩ := h
  exact ⟨arr, ty, hb.trans h1, h2⟩
/-- one cell of one client's -/
theorem Row.store {w : World} {C : Nat} {cls : List Cl} (h : Row w C cls) {i : Nat} {c : Cl} (hi : cls[i]? = some c) (k : Nat) (v : Value) (hk : k < 6) (c' : Cl) (hc : c'.cells = c.cells.set k v) : Row (w.setCell ⟨C, i * 6 + k, none⟩ v) C (cls.set i c') := by
  obtain ⟨arr, ty, h1, h2⟩ := h
  refine ⟨arr.setIfInBounds (i * 6 + k) v, ty, by simp [World.setCell, Array.getElem?_modify, h1], fun j d hj m u hm => ?_⟩
  have hm6 : m < 6 := by
    have := (List.getElem?_eq_some_iff.1 hm).1
    simp [Cl.cells] at this
    omega
  by_cases hij : j = i
  · subst hij
    have hd : d = c' := by
      rw [List.getElem?_set_self (by have := (List.getElem?_eq_some_iff.1 hi).1; exact this)] at hj
      exact (Option.some.inj hj).symm
    subst hd
    rw [hc] at hm
    by_cases hmk : m = k
    · subst hmk
      rw [List.getElem?_set_self (by simp [Cl.cells]; omega)] at hm
      rw [Array.getElem?_setIfInBounds_self_of_lt (by
        have h3 := h2 j c hi m (c.cells[m]'(by simp [Cl.cells]; omega)) (List.getElem?_eq_getElem _)
        exact (Array.getElem?_eq_some_iff.1 h3).1)]
      exact hm
    · rw [List.getElem?_set_ne (by omega)] at hm
      rw [Array.getElem?_setIfInBounds_ne (by omega)]
      exact h2 j c hi m u hm
  · rw [List.getElem?_set_ne (by omega)] at hj
    rw [Array.getElem?_setIfInBounds_ne (by omega)]
    exact h2 j d hj m u hm

/-! the changes that a hub holds -/
structure Pt where
  l : List Part
  ad : Option Addr
  cap : Nat
def Mb.pt (m : Mb) : Pt := ⟨m.l, m.ad, m.cap⟩
def Lg.pt (e : Lg) : Pt := ⟨e.l, e.ad, e.cap⟩
def Pt.At (w : World) (R C : Nat) (lv : Value) (p : Pt) : Prop := PR w p.ad p.cap p.l ∧ ∀ a, p.ad = some a → 0 < p.l.length → a.block ≠ R ∧ a.block ≠ C ∧ lv.ownBlock ≠ some a.block
def Hb.Has (h : Hb) (p : Pt) : Prop := (∃ e ∈ h.log, p = e.pt) ∨ ∃ c ∈ h.cls, p = c.sent.pt ∨ p = c.held.pt
theorem PR.over {w w' : World} {ad : Option Addr} {cap : Nat} {l : List Part} (h : PR w ad cap l) (hs : w.heap.size ≤ w'.heap.size) (hb : ∀ a, ad = some a → 0 < l.length → a.block < w.heap.size → w'.heap[a.block]? = w.heap[a.block]?) : PR w' ad cap l := by
  by_cases h0 : 0 < l.length
  · exact h.through hs (fun a ha hl => hb a ha h0 hl)
  · obtain rfl : l = [] := List.eq_nil_of_length_eq_zero (by omega)
    exact PR.nil _ _ _ (fun e => h.none_ e) h.cap63
theorem grown_set2 (w : World) (R j : Nat) (v : Value) : w.grownBy (w.setCell ⟨R, j, none⟩ v) (some R) :=
  ⟨rfl, rfl, rfl, by simp [World.setCell], fun k _ hk => by
    have hk' : R ≠ k := fun e => hk (by rw [e])
    show (w.heap.modify R _)[k]? = _
    rw [Array.getElem?_modify, if_neg hk']⟩
structure HM (B R C cap : Nat) (h : Hb) (w : World) : Prop where
  obj : w.heap[R]? = some (.cells #[.string h.main, h.lv, .slice (some ⟨C, 0, none⟩) h.cls.length cap] 49)
  row : Row w C h.cls
  own : w.ownsRow B 51 2 h.lv h.log.length (logCells h.log)
  parts : ∀ p, h.Has p → p.At w R C h.lv
  rc : R ≠ C
  lr : h.lv.ownBlock ≠ some R
  lc : h.lv.ownBlock ≠ some C
  br : B ≤ R
  bc : B ≤ C
  cl : h.cls.length ≤ cap
section
variable {B R C cap : Nat} {h : Hb} {w w' : World}
theorem HM.cells (m : HM B R C cap h w) : w.cell? ⟨R, 0, none⟩ = some (.string h.main) ∧ w.cell? ⟨R, 1, none⟩ = some h.lv ∧ w.cell? ⟨R, 2, none⟩ = some (.slice (some ⟨C, 0, none⟩) h.cls.length cap) ∧ ∀ j, w.frozen? ⟨R, j, none⟩ = false :=
  ⟨by simp [World.cell?, m.obj], by simp [World.cell?, m.obj], by simp [World.cell?, m.obj], fun j => by simp [World.frozen?, m.obj]⟩
theorem HM.rlt (m : HM B R C cap h w) : R < w.heap.size := (Array.getElem?_eq_some_iff.1 m.obj).1
/-- through a call that writes nothing that was there -/
theorem HM.below (m : HM B R C cap h w) (hb : Below w.heap.size w w') : HM B R C cap h w' := by
  refine ⟨(hb.block _ m.rlt).trans m.obj, m.row.keep (hb.block _ m.row.lt), own_keep m.own hb, fun p hp => ⟨(m.parts p hp).1.keep hb, (m.parts p hp).2⟩, m.rc, m.lr, m.lc, m.br, m.bc, m.cl⟩
/-- the log's row goes where it may -/
theorem HM.lg (m : HM B R C cap h w) : ∃ vo vc, h.lv = .slice vo h.log.length vc := own_form m.own
theorem HM.logCell (m : HM B R C cap h w) {i : Nat} {e : Lg} (hi : h.log[i]? = some e) : ∃ g vc, h.lv = .slice (some ⟨g, 0, none⟩) h.log.length vc ∧ h.log.length ≤ vc ∧ g < w.heap.size ∧ w.cell? ⟨g, i * 2, none⟩ = some (.int .i64 e.who) ∧ w.cell? ⟨g, i * 2 + 1, none⟩ = some (.slice e.ad e.l.length e.cap) := by
  have hc := fun g => m.own.cells (g := g)
  have hlt := m.own.lt
  have hlen := (List.getElem?_eq_some_iff.1 hi).1
  rcases m.own.2 with ⟨h1, h0⟩ | ⟨g, vc, cur, h1, hb, hg, hnc, -⟩
  · omega
  · obtain ⟨a, b⟩ := logCells_get h.log i e hi
    have ha := hc g (by rw [h1]; rfl) _ _ a
    have hb := hc g (by rw [h1]; rfl) _ _ b
    rw [Addr.add_lit, Nat.zero_add] at ha hb
    exact ⟨g, vc, h1, hnc, (Array.getElem?_eq_some_iff.1 hg).1, ha, hb⟩
/-- a client's cells are changed, and it holds other changes -/
theorem HM.client (m : HM B R C cap h w) {i : Nat} {c' : Cl} (hr : Row w' C (h.cls.set i c')) (hg : w.grownBy w' (some C)) (hs : c'.sent.pt.At w' R C h.lv ∨ h.Has c'.sent.pt) (hh : c'.held.pt.At w' R C h.lv ∨ h.Has c'.held.pt) : HM B R C cap { h with cls := h.cls.set i c' } w' := by
  have hk : ∀ p : Pt, h.Has p → p.At w' R C h.lv := fun p hp => by
    obtain ⟨h1, h2⟩ := m.parts p hp
    exact ⟨h1.over hg.size (fun a ha hl hlt => hg.block _ hlt (fun e => (h2 a ha hl).2.1 (Option.some.inj e))), h2⟩
  refine ⟨?_, hr, m.own.kept hg (.inr m.lc), fun p hp => ?_, m.rc, m.lr, m.lc, m.br, m.bc, by simpa using m.cl⟩
  · rw [hg.block _ m.rlt (fun e => m.rc (Option.some.inj e)), m.obj]
    simp
  · rcases hp with ⟨e, he, rfl⟩ | ⟨c, hc, hp⟩
    · exact hk _ (.inl ⟨e, he, rfl⟩)
    · rcases List.mem_or_eq_of_mem_set hc with hc | rfl
      · exact hk _ (.inr ⟨c, hc, hp⟩)
      · rcases hp with rfl | rfl
        · exact hs.elim id (hk _)
        · exact hh.elim id (hk _)
/-- the main text is another one -/
theorem HM.text (m : HM B R C cap h w) (t : ByteArray) : HM B R C cap { h with main := t } (w.setCell ⟨R, 0, none⟩ (.string t)) := by
  have hg := grown_set2 w R 0 (.string t)
  refine ⟨by simp [World.setCell, Array.getElem?_modify, m.obj], m.row.keep (hg.block _ m.row.lt (fun e => m.rc (Option.some.inj e).symm)), m.own.kept hg (.inr m.lr), fun p hp => ?_, m.rc, m.lr, m.lc, m.br, m.bc, m.cl⟩
  obtain ⟨h1, h2⟩ := m.parts p hp
  exact ⟨h1.over hg.size (fun a ha hl hlt => hg.block _ hlt (fun e => (h2 a ha hl).1 (Option.some.inj e))), h2⟩
/-- one more in the log: appended, and the slice laid back -/
theorem HM.push (m : HM B R C cap h w) (e : Lg) (he : e.pt.At w R C h.lv) (lv' : Value) (hown : w'.ownsRow B 51 2 lv' (h.log.length + 1) (logCells h.log ++ [.int .i64 e.who, .slice e.ad e.l.length e.cap])) (hg : w.grownBy w' h.lv.ownBlock) (hm : Moved h.lv lv' w.heap.size) :
    HM B R C cap { h with log := h.log ++ [e], lv := lv' } (w'.setCell ⟨R, 1, none⟩ lv') := by
  have hrl := m.rlt
  have hcl := m.row.lt
  have hg2 := grown_set2 w' R 1 lv'
  have hlr : lv'.ownBlock ≠ some R := hm.ne hrl m.lr
  have hlc : lv'.ownBlock ≠ some C := hm.ne hcl m.lc
  have hobj : w'.heap[R]? = _ := (hg.block _ hrl (fun e => m.lr e.symm)).trans m.obj
  have hk : ∀ p : Pt, p.At w R C h.lv → p.At (w'.setCell ⟨R, 1, none⟩ lv') R C lv' := fun p hp => by
    obtain ⟨h1, h2⟩ := hp
    have h3 : PR w' p.ad p.cap p.l := h1.over hg.size (fun a ha hl hlt => hg.block _ hlt (fun e => (h2 a ha hl).2.2 e.symm))
    refine ⟨h3.over hg2.size (fun a ha hl hlt => hg2.block _ hlt (fun e => (h2 a ha hl).1 (Option.some.inj e))), fun a ha hl => ⟨(h2 a ha hl).1, (h2 a ha hl).2.1, hm.ne (h1.at_ a ha hl).2.1 (h2 a ha hl).2.2⟩⟩
  refine ⟨by simp [World.setCell, Array.getElem?_modify, hobj], (m.row.keep (hg.block _ hcl (fun e => m.lc e.symm))).keep (hg2.block _ (Nat.lt_of_lt_of_le hcl hg.size) (fun e => m.rc (Option.some.inj e).symm)), ?_, fun p hp => ?_, m.rc, hlr, hlc, m.br, m.bc, m.cl⟩
  · rw [List.length_append, logCells_append]
    exact hown.kept hg2 (.inr hlr)
  · rcases hp with ⟨x, hx, rfl⟩ | ⟨c, hc, hp⟩
    · rcases List.mem_append.1 hx with hx | hx
      · exact hk _ (m.parts _ (.inl ⟨x, hx, rfl⟩))
      · obtain rfl : x = e := by simpa using hx
        exact hk _ he
    · exact hk _ (m.parts _ (.inr ⟨c, hc, hp⟩))
end
/-! what a hub's acts leave alone -/
def Own (R C : Nat) (lv : Value) (k : Nat) : Prop := k = R ∨ k = C ∨ lv.ownBlock = some k
def Kp (R C : Nat) (lv : Value) (w w' : World) : Prop := Chg (Own R C lv) w w'
section
variable {R C : Nat} {lv : Value} {w X Y : World}
theorem Kp.refl (R C : Nat) (lv : Value) (w : World) : Kp R C lv w w := Chg.refl _ w
theorem Kp.size (h : Kp R C lv w X) : w.heap.size ≤ X.heap.size := Chg.size h
theorem Kp.on (h : Kp R C lv w X) (hb : Below X.heap.size X Y) : Kp R C lv w Y :=
  ⟨hb.os.trans (Chg.os h), hb.tape.trans (Chg.tape h), hb.output.trans (Chg.output h), Nat.le_trans (Chg.size h) hb.size, fun k hk hs => (hb.block k (Nat.lt_of_lt_of_le hk (Chg.size h))).trans (Chg.block h k hk hs)⟩
theorem Kp.alloc (h : Kp R C lv w X) (o : Obj) : Kp R C lv w (X.alloc o) := h.on ((Below.refl X.heap.size X).alloc (Nat.le_refl _) o)
theorem Kp.row (h : Kp R C lv w X) {r : Option Nat} (hg : X.grownBy Y r) (hr : ∀ k, r = some k → Own R C lv k ∨ w.heap.size ≤ k) : Kp R C lv w Y :=
  ⟨hg.os.trans (Chg.os h), hg.tape.trans (Chg.tape h), hg.output.trans (Chg.output h), Nat.le_trans (Chg.size h) hg.size, fun k hk hs => (hg.block k (Nat.lt_of_lt_of_le hk (Chg.size h)) (fun e => by
    rcases hr k e.symm with h1 | h1
    · exact hs h1
    · omega)).trans (Chg.block h k hk hs)⟩
theorem Kp.below {B : Nat} (h : Kp R C lv w X) (hB : ∀ k, Own R C lv k → B ≤ k) (hw : B ≤ w.heap.size) : Below B w X :=
  ⟨Chg.os h, Chg.tape h, Chg.output h, Chg.size h, fun k hk => Chg.block h k (Nat.lt_of_lt_of_le hk hw) (fun hs => by have := hB k hs; omega)⟩
theorem HM.low {B cap : Nat} {h : Hb} (m : HM B R C cap h w) : ∀ k, Own R C h.lv k → B ≤ k := fun k hk => by
  rcases hk with rfl | rfl | hk
  · exact m.br
  · exact m.bc
  · exact (m.own.lt k hk).1
end
end Go.Proofs.Ytaibpnblnigkgaa
