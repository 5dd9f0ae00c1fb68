/-
  The contract of a maybe's over, whether there is a change or not. Conditions: the parts lie where the arguments say.
-/
import Derived.Test.YtaibpnblnigkgaaHubRecv
namespace Go.Proofs.Ytaibpnblnigkgaa
open Go.RowKit Gx
set_option maxRecDepth 100000

structure OverQ (m : Mb) (l : List Part) (bd : Option Addr) (cb : Nat) (w : World) (mo : Option Addr) (n mc : Nat) (no : Option Addr) (k' nc : Nat) (c : Int) (w' : World) : Prop where
  ok : c = 0 ↔ OverOk m l
  pl : c = 0 → n = (overL m l).length ∧ ((PR w' mo mc (overL m l) ∧ Fresh w.heap.size mo) ∨ (mo = bd ∧ mc = cb ∧ overL m l = l))
  pm : c = 0 → k' = (overM m l).length ∧ ((PR w' no nc (overM m l) ∧ Fresh w.heap.size no) ∨ (no = m.ad ∧ nc = m.cap ∧ overM m l = m.l))
  ne8 : c ≠ 8
  bel : Below w.heap.size w w'
section
variable {m : Mb} {l : List Part} {bd : Option Addr} {cb : Nat} {w w' w2 : World} {mo : Option Addr} {n mc : Nat} {no : Option Addr} {k' nc : Nat} {c : Int}
theorem OverQ.after (q : OverQ m l bd cb w mo n mc no k' nc c w') (hb : Below w'.heap.size w' w2) : OverQ m l bd cb w mo n mc no k' nc c w2 := by
  refine ⟨q.ok, fun h0 => ?_, fun h0 => ?_, q.ne8, q.bel.trans (hb.mono q.bel.size)⟩
  · obtain ⟨h1, h2⟩ := q.pl h0
    exact ⟨h1, h2.imp (fun h => ⟨h.1.keep hb, h.2⟩) id⟩
  · obtain ⟨h1, h2⟩ := q.pm h0
    exact ⟨h1, h2.imp (fun h => ⟨h.1.keep hb, h.2⟩) id⟩
theorem OverQ.before {o : Obj} (q : OverQ m l bd cb (w.alloc o) mo n mc no k' nc c w') (hg : w'.grownBy w2 (some w.heap.size)) : OverQ m l bd cb w mo n mc no k' nc c w2 := by
  have hz : (w.alloc o).heap.size = w.heap.size + 1 := World.size_alloc _ _
  have hs := q.bel.size
  have hp : ∀ {ad cap l}, PR w' ad cap l → Fresh (w.alloc o).heap.size ad → PR w2 ad cap l ∧ Fresh w.heap.size ad := fun h hf =>
    ⟨h.over hg.size (fun a ha _ hlt => hg.block _ hlt (fun e => by have := hf a ha; have := Option.some.inj e; omega)), fun a ha => by have := hf a ha; omega⟩
  refine ⟨q.ok, fun h0 => ?_, fun h0 => ?_, q.ne8, ?_⟩
  · obtain ⟨h1, h2⟩ := q.pl h0
    exact ⟨h1, h2.imp (fun h => hp h.1 h.2) id⟩
  · obtain ⟨h1, h2⟩ := q.pm h0
    exact ⟨h1, h2.imp (fun h => hp h.1 h.2) id⟩
  · exact (((Below.refl w.heap.size w).alloc (Nat.le_refl _) o).trans (q.bel.mono (by omega))).grown hg (by omega) (fun k e => by have := Option.some.inj e; omega)
theorem OverQ.drew (q : OverQ m l bd cb w.drew mo n mc no k' nc c w') : OverQ m l bd cb w mo n mc no k' nc c w' :=
  ⟨q.ok, q.pl, q.pm, q.ne8, (Gx.drewN_below w 1 _).trans q.bel⟩
end
theorem over_any (m : Mb) (l : List Part) (bd : Option Addr) (cb : Nat) (w : World) (h : PR w m.ad m.cap m.l) (g : PR w bd cb l) :
    Calls Try.prog 31 #[.agg #[.bool m.is, .slice m.ad m.l.length m.cap], .slice bd l.length cb] w fun e w' =>
      ∃ mo n mc no k' nc c, e = .returned (.tuple #[.slice mo n mc, .agg #[.bool m.is, .slice no k' nc], .int .i64 c]) ∧ OverQ m l bd cb w mo n mc no k' nc c w' := by
  obtain ⟨is, ml, ad, cap⟩ := m
  cases is with
  | true =>
    refine (over_is ad bd cap cb ml l w h g).mono ?_
    rintro e w' ⟨mo, no, n, k', mc, nc, c, rfl, h1, h2, h8, hb⟩
    refine ⟨mo, n, mc, no, k', nc, c, rfl, h1.trans ⟨fun h _ => h, fun h => h rfl⟩, fun h0 => ?_, fun h0 => ?_, h8, hb⟩
    · exact ⟨(h2 h0).1.1, .inl (h2 h0).1.2⟩
    · exact ⟨(h2 h0).2.1, .inl (h2 h0).2.2⟩
  | false =>
    refine (over_not ad bd ml.length l.length cap cb w).mono ?_
    rintro e w' ⟨rfl, hb⟩
    exact ⟨bd, l.length, cb, ad, ml.length, cap, 0, rfl, ⟨fun _ h => absurd h (by simp), fun _ => rfl⟩, fun _ => ⟨rfl, .inr ⟨rfl, rfl, rfl⟩⟩, fun _ => ⟨rfl, .inr ⟨rfl, rfl, rfl⟩⟩, by decide, hb⟩
/-- all of a client's cells at once -/
theorem Row.whole {w : World} {C : Nat} {cls : List Cl} (r : Row w C cls) {k : Nat} {x : Cl} (hk : cls[k]? = some x) (c : Cl) :
    Row ((((((w.setCell ⟨C, k * 6, none⟩ (.string c.text)).setCell ⟨C, k * 6 + 1, none⟩ (.int .i64 c.seen)).setCell ⟨C, k * 6 + 2, none⟩ (.bool c.sent.is)).setCell ⟨C, k * 6 + 3, none⟩ (.slice c.sent.ad c.sent.l.length c.sent.cap)).setCell ⟨C, k * 6 + 4, none⟩ (.bool c.held.is)).setCell ⟨C, k * 6 + 5, none⟩ (.slice c.held.ad c.held.l.length c.held.cap)) C (cls.set k c) := by
  have r1 := r.store hk 0 (.string c.text) (by decide) { x with text := c.text } rfl
  have r2 := r1.store (get_set hk) 1 (.int .i64 c.seen) (by decide) { x with text := c.text, seen := c.seen } rfl
  have r3 := r2.store (get_set (get_set hk)) 2 (.bool c.sent.is) (by decide) { x with text := c.text, seen := c.seen, sent := { x.sent with is := c.sent.is } } rfl
  have r4 := r3.store (get_set (get_set (get_set hk))) 3 (.slice c.sent.ad c.sent.l.length c.sent.cap) (by decide) { x with text := c.text, seen := c.seen, sent := c.sent } rfl
  have r5 := r4.store (get_set (get_set (get_set (get_set hk)))) 4 (.bool c.held.is) (by decide) { x with text := c.text, seen := c.seen, sent := c.sent, held := { x.held with is := c.held.is } } rfl
  have r6 := r5.store (get_set (get_set (get_set (get_set (get_set hk))))) 5 (.slice c.held.ad c.held.l.length c.held.cap) (by decide) c rfl
  rw [set_set, set_set, set_set, set_set, set_set] at r6
  exact r6
theorem Pt.At.below {w w' : World} {R C : Nat} {lv : Value} {p : Pt} (h : p.At w R C lv) (hb : Below w.heap.size w w') : p.At w' R C lv := ⟨h.1.keep hb, h.2⟩
theorem Pt.At.row {w w' : World} {R C : Nat} {lv : Value} {p : Pt} (h : p.At w R C lv) (hg : w.grownBy w' (some C)) : p.At w' R C lv :=
  ⟨h.1.over hg.size (fun a ha hl hlt => hg.block _ hlt (fun e => (h.2 a ha hl).2.1 (Option.some.inj e))), h.2⟩
end Go.Proofs.Ytaibpnblnigkgaa
