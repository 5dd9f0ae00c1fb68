/-
  The memory of two feeds and two builders; the contracts that Transform wants besides. Conditions: the parts lie where the arguments say.
-/
import Derived.Test.YtaibpnblnigkgaaCompose
namespace Go.Proofs.Ytaibpnblnigkgaa
open Go.RowKit Gx

/-- two feeds and two builders, each in its own memory -/
structure CM2 (B0 lx hx gx ly hy gy base g1 g2 : Nat) (w wr : World) (rx ry : List Part) (F1 : Nat → Prop) (s1 : Bst) (v1 : Value) (F2 : Nat → Prop) (s2 : Bst) (v2 : Value) : Prop where
  x : Fd wr lx hx gx rx
  y : Fd wr ly hy gy ry
  b1 : Bd wr base F1 g1 s1 v1
  b2 : Bd wr base F2 g2 s2 v2
  dis : ∀ k, F1 k → ¬ F2 k
  bel : Below B0 w wr
  l0 : B0 ≤ lx
  l1 : hx ≤ ly
  l2 : hy ≤ base
  l3 : B0 ≤ w.heap.size

variable {B0 lx hx gx ly hy gy base g1 g2 : Nat} {w wr w' : World} {rx ry : List Part} {F1 F2 : Nat → Prop} {s1 s2 : Bst} {v1 v2 : Value}
theorem CM2.base_lo (h : CM2 B0 lx hx gx ly hy gy base g1 g2 w wr rx ry F1 s1 v1 F2 s2 v2) : B0 ≤ base := by
  have := h.l0
  have := h.l1
  have := h.l2
  have := h.x.lg.1
  have := h.x.lg.2
  have := h.y.lg.1
  have := h.y.lg.2
  omega
theorem CM2.below (h : CM2 B0 lx hx gx ly hy gy base g1 g2 w wr rx ry F1 s1 v1 F2 s2 v2) (hb : Below wr.heap.size wr w') : CM2 B0 lx hx gx ly hy gy base g1 g2 w w' rx ry F1 s1 v1 F2 s2 v2 :=
  ⟨h.x.below hb, h.y.below hb, h.b1.keep (S := fun _ => False) (Chg.of_below hb) (fun _ _ f => f), h.b2.keep (S := fun _ => False) (Chg.of_below hb) (fun _ _ f => f), h.dis, h.bel.trans (hb.mono (Nat.le_trans h.l3 h.bel.size)), h.l0, h.l1, h.l2, h.l3⟩
theorem CM2.tookX (h : CM2 B0 lx hx gx ly hy gy base g1 g2 w wr rx ry F1 s1 v1 F2 s2 v2) {rx' : List Part} (hf : Fd w' lx hx gx rx') (hc : Chg (fun k => lx ≤ k ∧ k < hx) wr w') : CM2 B0 lx hx gx ly hy gy base g1 g2 w w' rx' ry F1 s1 v1 F2 s2 v2 := by
  have h1 := h.l1
  have h2 := h.l2
  have h4 := h.y.lg
  refine ⟨hf, h.y.keep hc (fun k h3 _ h => by omega), h.b1.keep hc (fun k hk h6 => by have := (h.b1.low k hk).1; omega), h.b2.keep hc (fun k hk h6 => by have := (h.b2.low k hk).1; omega), h.dis, h.bel.trans (hc.below (Nat.le_trans h.l3 h.bel.size) (fun i hi => Nat.le_trans h.l0 hi.1)), h.l0, h.l1, h.l2, h.l3⟩
theorem CM2.tookY (h : CM2 B0 lx hx gx ly hy gy base g1 g2 w wr rx ry F1 s1 v1 F2 s2 v2) {ry' : List Part} (hf : Fd w' ly hy gy ry') (hc : Chg (fun k => ly ≤ k ∧ k < hy) wr w') : CM2 B0 lx hx gx ly hy gy base g1 g2 w w' rx ry' F1 s1 v1 F2 s2 v2 := by
  have h0 := h.l0
  have h1 := h.l1
  have h2 := h.l2
  have h4 := h.x.lg
  refine ⟨h.x.keep hc (fun k _ h3 h => by omega), hf, h.b1.keep hc (fun k hk h6 => by have := (h.b1.low k hk).1; omega), h.b2.keep hc (fun k hk h6 => by have := (h.b2.low k hk).1; omega), h.dis, h.bel.trans (hc.below (Nat.le_trans h.l3 h.bel.size) (fun i hi => by omega)), h.l0, h.l1, h.l2, h.l3⟩
theorem CM2.added1 (h : CM2 B0 lx hx gx ly hy gy base g1 g2 w wr rx ry F1 s1 v1 F2 s2 v2) {F' : Nat → Prop} {st' : Bst} {v' : Value} (hb : Bd w' base F' g1 st' v') (hF' : ∀ k, F' k → F1 k ∨ wr.heap.size ≤ k) (hc : Chg F1 wr w') : CM2 B0 lx hx gx ly hy gy base g1 g2 w w' rx ry F' st' v' F2 s2 v2 := by
  have h0 := h.l0
  have h1 := h.l1
  have h2 := h.l2
  have h4 := h.x.lg
  have h5 := h.y.lg
  have hF : ∀ k, F1 k → base ≤ k := fun k hk => (h.b1.low k hk).1
  refine ⟨h.x.keep hc (fun k _ h3 h => by have := hF k h; omega), h.y.keep hc (fun k _ h3 h => by have := hF k h; omega), hb, h.b2.keep hc (fun k hk h6 => h.dis k h6 hk), fun k hk hk2 => ?_, h.bel.trans (hc.below (Nat.le_trans h.l3 h.bel.size) (fun i hi => by have := hF i hi; omega)), h.l0, h.l1, h.l2, h.l3⟩
  rcases hF' k hk with h6 | h6
  · exact h.dis k h6 hk2
  · have := (h.b2.low k hk2).2; omega
theorem CM2.added2 (h : CM2 B0 lx hx gx ly hy gy base g1 g2 w wr rx ry F1 s1 v1 F2 s2 v2) {F' : Nat → Prop} {st' : Bst} {v' : Value} (hb : Bd w' base F' g2 st' v') (hF' : ∀ k, F' k → F2 k ∨ wr.heap.size ≤ k) (hc : Chg F2 wr w') : CM2 B0 lx hx gx ly hy gy base g1 g2 w w' rx ry F1 s1 v1 F' st' v' := by
  have h0 := h.l0
  have h1 := h.l1
  have h2 := h.l2
  have h4 := h.x.lg
  have h5 := h.y.lg
  have hF : ∀ k, F2 k → base ≤ k := fun k hk => (h.b2.low k hk).1
  refine ⟨h.x.keep hc (fun k _ h3 h => by have := hF k h; omega), h.y.keep hc (fun k _ h3 h => by have := hF k h; omega), h.b1.keep hc (fun k hk h6 => h.dis k hk h6), hb, fun k hk hk2 => ?_, h.bel.trans (hc.below (Nat.le_trans h.l3 h.bel.size) (fun i hi => by have := hF i hi; omega)), h.l0, h.l1, h.l2, h.l3⟩
  rcases hF' k hk2 with h6 | h6
  · exact h.dis k hk h6
  · have := (h.b1.low k hk).2; omega
theorem CM2.boxed (h : CM2 B0 lx hx gx ly hy gy base g1 g2 w wr rx ry F1 s1 v1 F2 s2 v2) {S : Nat → Prop} (hc : Chg S wr w') (hS : ∀ k, S k → hy ≤ k ∧ ¬ F1 k ∧ ¬ F2 k ∧ B0 ≤ k) : CM2 B0 lx hx gx ly hy gy base g1 g2 w w' rx ry F1 s1 v1 F2 s2 v2 := by
  have h1 := h.l1
  have h4 := h.x.lg
  have h5 := h.y.lg
  exact ⟨h.x.keep hc (fun k _ h3 h => by have := (hS k h).1; omega), h.y.keep hc (fun k _ h3 h => by have := (hS k h).1; omega), h.b1.keep hc (fun k hk h => (hS k h).2.1 hk), h.b2.keep hc (fun k hk h => (hS k h).2.2.1 hk), h.dis, h.bel.trans (hc.below (Nat.le_trans h.l3 h.bel.size) (fun i hi => (hS i hi).2.2.2)), h.l0, h.l1, h.l2, h.l3⟩
theorem CM2.base_le (h : CM2 B0 lx hx gx ly hy gy base g1 g2 w wr rx ry F1 s1 v1 F2 s2 v2) : base ≤ wr.heap.size := by
  have := h.b1.low g1 h.b1.fg
  omega

/-- the parts of a builder that is done, in its blocks -/
def DonePost (base : Nat) (F : Nat → Prop) (g : Nat) (st : Bst) (w : World) (e : Ending) (w' : World) : Prop :=
  ∃ F' v', e = .returned v' ∧ Bd w' base F' g (flushS st) v' ∧ (∀ k, F' k → F k ∨ w.heap.size ≤ k) ∧ Chg F w w'

set_option maxHeartbeats 1000000 in
theorem done_own (w : World) (base : Nat) (F : Nat → Prop) (g : Nat) (st : Bst) (v : Value) (h : Bd w base F g st v) (hb : base ≤ w.heap.size) (hs : st.1.length ≤ 100000) (hc : st.2.1 ≤ 100000) :
    Calls Try.prog 39 #[.pointer (some ⟨g, 0, none⟩)] w (DonePost base F g st w) := by
  have HB := Lib.hid h
  clear h
  go_enter Try.func39, Try.ntmps39
  go_wp2_with fail
  refine (flush_any w base F g st v HB.out hb hs hc).mono ?_
  rintro e w2 ⟨rfl, F2, v2, hb2, hF2, hc2⟩
  have c0 := hb2.cell0
  have f0 := hb2.froz 0
  have hlt := hb2.lt
  have HB2 := Lib.hid hb2
  have HC2 := Lib.hid hc2
  have HF2 := Lib.hid hF2
  clear hb2 hc2 hF2
  go_wp2
  go_ret
  exact ⟨F2, v2, rfl, HB2.out, HF2.out, HC2.out⟩

/-- good's answer, whichever -/
def GoodPost (ad : Option Addr) (ca : Nat) (l : List Part) (w : World) (e : Ending) (w' : World) : Prop :=
  ∃ (ad' : Option Addr) (n' ca' : Nat) (c : Int), e = .returned (.tuple #[.slice ad' n' ca', .int .i64 c]) ∧ ((chk l = 0 ∧ ad' = ad ∧ n' = l.length ∧ ca' = ca ∧ c = 0) ∨ (chk l ≠ 0 ∧ c = 2)) ∧ Below w.heap.size w w'
theorem good_any (ad : Option Addr) (ca : Nat) (l : List Part) (w : World) (h : PR w ad ca l) :
    Calls Try.prog 38 #[.slice ad l.length ca] w (GoodPost ad ca l w) := by
  by_cases hl : chk l = 0
  · refine (good_ok ad ca l w h hl).mono ?_
    rintro e w' ⟨rfl, hb⟩
    exact ⟨_, _, _, _, rfl, .inl ⟨hl, rfl, rfl, rfl, rfl⟩, hb⟩
  · refine (good_no ad ca l w h hl).mono ?_
    rintro e w' ⟨rfl, hb⟩
    exact ⟨_, _, _, _, rfl, .inr ⟨hl, rfl⟩, hb⟩
end Go.Proofs.Ytaibpnblnigkgaa
