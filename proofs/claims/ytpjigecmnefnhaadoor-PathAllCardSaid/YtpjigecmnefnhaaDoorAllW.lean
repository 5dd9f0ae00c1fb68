/-
  The contract of the function within path.All: the paths of a value, behind those that are told. Conditions: the value is good, and there are few nodes.
-/
import Derived.Test.YtpjigecmnefnhaaDoorAllObj
import Derived.Test.YtpjigecmnefnhaaDoorAllLaw2
import Derived.Test.YtpjigecmnefnhaaDoorPartsIt
namespace Go.Proofs.YtpjigecmnefnhaaDoor
open Go.RowKit Gx
set_option maxRecDepth 100000

/-- what the call writes -/
def AllS (O : Nat) (vo pv : Value) (b : Nat) : Prop := b = O ∨ vo.ownBlock = some b ∨ pv.ownBlock = some b
def AllPost (O : Nat) (X : Nat → Prop) (ps more : List (List Step)) (vo pv : Value) (p : List Step) (W : World) (e : Ending) (W' : World) : Prop :=
  (∃ v, e = .returned v) ∧ ∃ vo' rows', OT W' O X (ps ++ more) vo' rows' ∧ SOwn W' (O + 2) pv p ∧ Fr W W' (AllS O vo pv) ∧ ∀ b, vo'.ownBlock = some b → vo.ownBlock = some b ∨ W.heap.size ≤ b
/-- what the call asks of the memory -/
structure AI (W : World) (n₀ O : Nat) (X : Nat → Prop) (ps : List (List Step)) (vo : Value) (rows : List Value) (pv : Value) (p : List Step) : Prop where
  n0 : n₀ ≤ O
  ot : OT W O X ps vo rows
  fn : W.cell? ⟨O + 1, 0, none⟩ = some (.func (.func 20) #[] #[.pointer (some ⟨O, 0, none⟩), .pointer (some ⟨O + 1, 0, none⟩)])
  so : SOwn W (O + 2) pv p
  xl : ∀ b, X b → O + 2 ≤ b ∧ b < W.heap.size
  xp : ∀ b, pv.ownBlock = some b → X b
  wf : ∀ q ∈ p, (Lit.int .i64 q.2).wf = true ∧ q.1.length ≤ 9223372036854775807
namespace AI
variable {W W' : World} {n₀ O : Nat} {X : Nat → Prop} {ps : List (List Step)} {vo : Value} {rows : List Value} {pv : Value} {p : List Step}
theorem keep (h : AI W n₀ O X ps vo rows pv p) (hb : Below W.heap.size W W') : AI W' n₀ O X ps vo rows pv p :=
  ⟨h.n0, h.ot.keep hb, (hb.cell (p := ⟨O + 1, 0, none⟩) (World.block_lt_of_cell? W _ h.fn)).trans h.fn, own_keep h.so hb, fun b hx => ⟨(h.xl b hx).1, Nat.lt_of_lt_of_le (h.xl b hx).2 hb.size⟩, h.xp, h.wf⟩
theorem size (h : AI W n₀ O X ps vo rows pv p) : O + 1 < W.heap.size := World.block_lt_of_cell? W _ h.fn
theorem olt (h : AI W n₀ O X ps vo rows pv p) : ∀ b, vo.ownBlock = some b → O + 2 ≤ b ∧ b < W.heap.size := fun b hb => h.ot.own.lt b hb
theorem plt (h : AI W n₀ O X ps vo rows pv p) : ∀ b, pv.ownBlock = some b → O + 2 ≤ b ∧ b < W.heap.size := fun b hb => h.so.lt b hb
end AI
/-- amid a value: what is told so far -/
structure AL (W : World) (n₀ O : Nat) (X : Nat → Prop) (vo0 pv : Value) (p : List Step) (q : Loc) (ps : List (List Step)) (vo : Value) (rows : List Value) (wr : World) : Prop where
  ot : OT wr O X ps vo rows
  so : SOwn wr (O + 2) pv p
  fn : wr.cell? ⟨O + 1, 0, none⟩ = some (.func (.func 20) #[] #[.pointer (some ⟨O, 0, none⟩), .pointer (some ⟨O + 1, 0, none⟩)])
  fr : Fr W wr (AllS O vo0 pv)
  vo_ : ∀ b, vo.ownBlock = some b → vo0.ownBlock = some b ∨ W.heap.size < b
  box : CellsAt wr W.heap.size 0 q
  lt : W.heap.size < wr.heap.size
  at_ : VAt wr (fun b => b < n₀) q
/-- what holds all the time -/
structure AC (W : World) (n₀ O : Nat) (X : Nat → Prop) (vo0 pv : Value) (p : List Step) : Prop where
  n0 : n₀ ≤ O
  o1 : O + 1 < W.heap.size
  xl : ∀ b, X b → O + 2 ≤ b ∧ b < W.heap.size
  xp : ∀ b, pv.ownBlock = some b → X b
  vl : ∀ b, vo0.ownBlock = some b → O + 2 ≤ b ∧ b < W.heap.size
  wf : ∀ q ∈ p, (Lit.int .i64 q.2).wf = true ∧ q.1.length ≤ 9223372036854775807
namespace AL
variable {W W2 w6 w7 : World} {n₀ O : Nat} {X : Nat → Prop} {vo0 pv : Value} {p : List Step} {q : Loc} {ps : List (List Step)} {vo : Value} {rows : List Value}
theorem keep (h : AL W n₀ O X vo0 pv p q ps vo rows W2) (hb : Below W2.heap.size W2 w6) : AL W n₀ O X vo0 pv p q ps vo rows w6 :=
  ⟨h.ot.keep hb, own_keep h.so hb, (hb.cell (p := ⟨O + 1, 0, none⟩) (World.block_lt_of_cell? _ _ h.fn)).trans h.fn, h.fr.trans (.of_below hb (S := AllS O vo0 pv)) (fun _ _ e => e), h.vo_, h.box.through (hb.block _ h.lt), Nat.lt_of_lt_of_le h.lt hb.size, h.at_.keep hb⟩
/-- the path of a part: what its call asks -/
theorem child (h : AL W n₀ O X vo0 pv p q ps vo rows W2) (c : AC W n₀ O X vo0 pv p) {v1 : Value} {t : Step} (hs1 : SOwn w6 (O + 2) v1 (p ++ [t])) (hg : W2.grownBy w6 pv.ownBlock) (hm : Moved pv v1 W2.heap.size)
    (ht : (Lit.int .i64 t.2).wf = true ∧ t.1.length ≤ 9223372036854775807) : AI w6 n₀ O (fun b => X b ∨ v1.ownBlock = some b) ps vo rows v1 (p ++ [t]) := by
  have hf := World.block_lt_of_cell? _ _ h.fn
  have hO : pv.ownBlock ≠ some (O + 1) := fun e => by have := (c.xl _ (c.xp _ e)).1; omega
  have hw2 := h.fr.size
  refine ⟨c.n0, h.ot.extend (h.ot.grow hg (fun b e => ⟨(c.xl _ (c.xp _ e)).1, .inl (c.xp _ e)⟩)) (fun b hb => ?_), ?_, hs1, fun b hb => ?_, fun b hb => .inr hb, fun x hx => ?_⟩
  · rcases hb with hb | hb
    · exact .inl hb
    · rcases hm with hm | ⟨g, hm, hgl⟩
      · exact .inl (c.xp b (by rw [← hm]; exact hb))
      · rw [hm] at hb; have := Option.some.inj hb; right; omega
  · rw [World.cell?_of_block (hg.block (O + 1) hf (fun e => hO e.symm))]; exact h.fn
  · rcases hb with hb | hb
    · have h1 := c.xl b hb
      exact ⟨h1.1, by have := hg.size; omega⟩
    · exact hs1.lt b hb
  · rcases List.mem_append.1 hx with hx | hx
    · exact c.wf x hx
    · obtain rfl : x = t := by simpa using hx
      exact ht
/-- behind it -/
theorem back (h : AL W n₀ O X vo0 pv p q ps vo rows W2) (c : AC W n₀ O X vo0 pv p) {v1 vo7 : Value} {t : Step} {more : List (List Step)} {rows7 : List Value} (hs1 : SOwn w6 (O + 2) v1 (p ++ [t])) (hs0 : SOwn w6 (O + 2) pv p) (hg : W2.grownBy w6 pv.ownBlock) (hm : Moved pv v1 W2.heap.size)
    (ho : OT w7 O (fun b => X b ∨ v1.ownBlock = some b) (ps ++ more) vo7 rows7) (hs7 : SOwn w7 (O + 2) v1 (p ++ [t])) (hf : Fr w6 w7 (AllS O vo v1)) (hv : ∀ b, vo7.ownBlock = some b → vo.ownBlock = some b ∨ w6.heap.size ≤ b) : AL W n₀ O X vo0 pv p q (ps ++ more) vo7 rows7 w7 := by
  have hw2 := h.fr.size
  have hlt := h.lt
  have hg6 := hg.size
  have hf7 := hf.size
  have ho1 := c.o1
  have h2 : ∀ b, vo.ownBlock = some b → O + 2 ≤ b := fun b hb => (h.ot.own.lt b hb).1
  have hv1 : ∀ b, v1.ownBlock = some b → pv.ownBlock = some b ∨ W2.heap.size ≤ b := fun b hb => by
    rcases hm with hm | ⟨g, hm, hgl⟩
    · left; rw [← hm]; exact hb
    · right; rw [hm] at hb; have := Option.some.inj hb; omega
  have hpl : ∀ b, pv.ownBlock = some b → O + 2 ≤ b ∧ b < W.heap.size := fun b hb => c.xl b (c.xp b hb)
  have hb6 : ∀ i, i < W2.heap.size → pv.ownBlock ≠ some i → w6.heap[i]? = W2.heap[i]? := fun i hi hn => hg.block i hi (fun e => hn e.symm)
  have hb7 : ∀ i, i < w6.heap.size → ¬ AllS O vo v1 i → w7.heap[i]? = w6.heap[i]? := hf.block
  have hS : ∀ i, i < W2.heap.size → i ≠ O → vo.ownBlock ≠ some i → pv.ownBlock ≠ some i → w7.heap[i]? = W2.heap[i]? := fun i hi h1 h2 h3 => (hb7 i (by omega) (fun e => by
    rcases e with e | e | e
    · exact h1 e
    · exact h2 e
    · rcases hv1 i e with e | e
      · exact h3 e
      · omega)).trans (hb6 i hi h3)
  refine ⟨ho.less (fun b _ hb => .inl hb), ?_, ?_, ?_, fun b hb => ?_, ?_, by omega, ?_⟩
  · rcases hm with hm | ⟨g, hm, hgl⟩
    · cases hpb : pv.ownBlock with
      | none => exact own_same hs0 (fun g e => by rw [hpb] at e; cases e)
      | some g =>
        obtain ⟨cap, e1, e2⟩ := own_cap (by decide) hs0 hs1 hpb (by rw [hm]; exact hpb)
        rw [e2] at hs7
        rw [e1]
        unfold SOwn at hs7 ⊢
        rw [List.length_append, stepCells_snoc] at hs7
        exact own_front hs7 (stepCells_len p)
    · refine own_same hs0 (fun b hb => hb7 b ?_ (fun e => ?_))
      · have := hpl b hb; omega
      · have h3 := hpl b hb
        rcases e with e | e | e
        · omega
        · exact h.ot.nx b e (c.xp b hb)
        · rw [hm] at e; have := Option.some.inj e; omega
  · rw [World.cell?_of_block (hS (O + 1) (World.block_lt_of_cell? _ _ h.fn) (by omega) (fun e => by have := h2 _ e; omega) (fun e => by have := (hpl _ e).1; omega))]
    exact h.fn
  · refine (h.fr.trans (Fr.of_grown hg (S := AllS O vo0 pv) (fun b e => .inr (.inr e))) (fun _ _ e => e)).trans hf (fun i hi e => ?_)
    rcases e with e | e | e
    · exact .inl e
    · rcases h.vo_ i e with e | e
      · exact .inr (.inl e)
      · omega
    · rcases hv1 i e with e | e
      · exact .inr (.inr e)
      · omega
  · rcases hv b hb with hb | hb
    · exact h.vo_ b hb
    · right; omega
  · refine h.box.through (hS _ hlt (by omega) (fun e => ?_) (fun e => by have := (hpl _ e).2; omega))
    rcases h.vo_ _ e with e | e
    · have := (c.vl _ e).2; omega
    · omega
  · refine h.at_.through (by omega) (fun b hb hl => hS b hl (by have := c.n0; omega) (fun e => by have := h2 _ e; have := c.n0; omega) (fun e => by have := (hpl _ e).1; have := c.n0; omega)) (fun b hb _ => hb)
/-- its own path is told -/
theorem told {w5 : World} {vo6 : Value} {co : Option Addr} {cc base : Nat} (h : AL W n₀ O X vo0 pv p q ps vo rows w5) (c : AC W n₀ O X vo0 pv p) (hso : SOwn w5 base (.slice co p.length cc) p) (hb : W.heap.size ≤ base) (hvb : ∀ b, vo.ownBlock = some b → b < base)
    (ho : w6.ownsRow (O + 2) 27 1 vo6 (ps.length + 1) (rows ++ [.slice co p.length cc])) (hg : w5.grownBy w6 vo.ownBlock) (hm : Moved vo vo6 w5.heap.size) :
    AL W n₀ O X vo0 pv p q (ps ++ [p]) vo6 (rows ++ [.slice co p.length cc]) (w6.setCell ⟨O, 0, none⟩ vo6) := by
  have hw5 := h.fr.size
  have hlt := h.lt
  have ho1 := c.o1
  have hg2 := grown_cell w6 O 0 vo6
  have hz := hg.size
  have hz2 := hg2.size
  have h2 : ∀ b, vo.ownBlock = some b → O + 2 ≤ b := fun b hb => (h.ot.own.lt b hb).1
  have hS : ∀ i, i < w5.heap.size → i ≠ O → vo.ownBlock ≠ some i → (w6.setCell ⟨O, 0, none⟩ vo6).heap[i]? = w5.heap[i]? := fun i hi h1 h3 =>
    (hg2.block i (by omega) (fun e => h1 (Option.some.inj e))).trans (hg.block i hi (fun e => h3 e.symm))
  obtain ⟨ad, cap, e, hsr, ha⟩ := SR.own hso rfl c.wf
  cases e
  refine ⟨h.ot.push (fun b hb => by have := (c.xl b hb).2; omega) hsr (fun a h1 _ => ⟨?_, fun e => ?_, fun e => ?_⟩) ho hg hm, own_same h.so (fun g hg' => hS g ?_ ?_ (fun e => h.ot.nx g e (c.xp g hg'))), ?_, ?_, fun b hb' => ?_, ?_, by omega, ?_⟩
  · have := ha a h1; omega
  · have := ha a h1; have := hvb _ e; omega
  · have := ha a h1; have := (c.xl _ e).2; omega
  · have := (c.xl _ (c.xp g hg')).2; omega
  · have := (c.xl _ (c.xp g hg')).1; omega
  · rw [World.cell?_of_block (hS (O + 1) (World.block_lt_of_cell? _ _ h.fn) (by omega) (fun e => by have := h2 _ e; omega))]
    exact h.fn
  · refine (h.fr.trans (Fr.of_grown hg (S := fun b => vo.ownBlock = some b) (fun b e => e)) (fun i hi e => ?_)).trans (Fr.of_grown hg2 (S := fun b => b = O) (fun b e => (Option.some.inj e).symm)) (fun i _ e => .inl e)
    rcases h.vo_ i e with e | e
    · exact .inr (.inl e)
    · omega
  · rcases hm with hm | ⟨g, hm, hgl⟩
    · exact h.vo_ b (by rw [← hm]; exact hb')
    · rw [hm] at hb'; have := Option.some.inj hb'; right; omega
  · refine h.box.through (hS _ hlt (by omega) (fun e => ?_))
    rcases h.vo_ _ e with e | e
    · have := (c.vl _ e).2; omega
    · omega
  · exact h.at_.through (by omega) (fun b hb hl => hS b hl (by have := c.n0; omega) (fun e => by have := h2 _ e; have := c.n0; omega)) (fun b hb _ => hb)
end AL
set_option maxHeartbeats 16000000 in
theorem all1_step (d : Nat) (v : V) (hg : Gd (d + 1) v) (IH : ∀ (q : Loc) (W : World) (n₀ O : Nat) (X : Nat → Prop) (ps : List (List Step)) (vo : Value) (rows : List Value) (pv : Value) (p : List Step), q.v ∈ v.parts → VAt W (fun b => b < n₀) q → AI W n₀ O X ps vo rows pv p → ps.length + q.v.nodes ≤ 1000 → p.length + d ≤ 20 →
      Calls Tryd.prog 20 #[q.val, pv, .pointer (some ⟨O, 0, none⟩), .pointer (some ⟨O + 1, 0, none⟩)] W (AllPost O X ps (pathsD d q.v p) vo pv p W))
    (ad bd : Option Addr) (cap dap : Nat) (W : World) (n₀ O : Nat) (X : Nat → Prop) (ps : List (List Step)) (vo : Value) (rows : List Value) (pv : Value) (p : List Step) (hq : VAt W (fun b => b < n₀) ⟨v, ad, cap, bd, dap⟩) (h : AI W n₀ O X ps vo rows pv p) (hn : ps.length + v.nodes ≤ 1000) (hd : p.length + (d + 1) ≤ 20) :
    Calls Tryd.prog 20 #[.agg #[.int .i64 v.k, .int .i64 v.n, .int .u64 v.f, .string v.s, .slice ad v.l.length cap, .slice bd v.e.length dap], pv, .pointer (some ⟨O, 0, none⟩), .pointer (some ⟨O + 1, 0, none⟩)] W (AllPost O X ps (pathsD (d + 1) v p) vo pv p W) := by
  have hba := (Below.refl W.heap.size W).alloc (Nat.le_refl _) (.cells #[.int .i64 v.k, .int .i64 v.n, .int .u64 v.f, .string v.s, .slice ad v.l.length cap, .slice bd v.e.length dap] 26)
  have h1 := h.keep hba
  have hq1 := hq.keep hba
  have hbx := CellsAt.box (q := ⟨v, ad, cap, bd, dap⟩) (heap_alloc_new W (.cells #[.int .i64 v.k, .int .i64 v.n, .int .u64 v.f, .string v.s, .slice ad v.l.length cap, .slice bd v.e.length dap] 26))
  have hbl : W.heap.size < (W.alloc (.cells #[.int .i64 v.k, .int .i64 v.n, .int .u64 v.f, .string v.s, .slice ad v.l.length cap, .slice bd v.e.length dap] 26)).heap.size := by simp
  obtain ⟨ao, ac, hvo⟩ := h.ot.form
  obtain ⟨po, pc, hpv⟩ := own_form h.so
  have HC : Hid (AC W n₀ O X vo pv p) := Lib.hid ⟨h.n0, h.size, h.xl, h.xp, h.olt, h.wf⟩
  have HAL : Hid (AL W n₀ O X vo pv p ⟨v, ad, cap, bd, dap⟩ ps vo rows (W.alloc (.cells #[.int .i64 v.k, .int .i64 v.n, .int .u64 v.f, .string v.s, .slice ad v.l.length cap, .slice bd v.e.length dap] 26))) := Lib.hid ⟨h1.ot, h1.so, h1.fn, .of_below hba, fun _ e => .inl e, hbx, hbl, hq1⟩
  have hl1 := hq.l.lbound
  have he1 := hq.e.ebound
  simp only at hl1 he1
  obtain ⟨np, hnp⟩ : ∃ np, ps.length = np := ⟨_, rfl⟩
  obtain ⟨m, hm⟩ : ∃ m, p.length = m := ⟨_, rfl⟩
  have hnodes := nodes_eq v
  rw [hnp] at hn hvo
  rw [hm] at hd hpv
  have HG := Lib.hid hg
  have HI := Lib.hid IH
  have HNN := Lib.hid hnodes
  have HM := Lib.hid hm
  have HNP := Lib.hid hnp
  subst hvo
  subst hpv
  have hn1 : np ≤ 999 := by omega
  clear IH hg h h1 hq hq1 hba hbx hbl hnp hm hnodes
  go_enter Tryd.func20, Tryd.ntmps20
  go_upto_region 1 with fail
  generalize hw1 : World.alloc W _ = W1 at HAL ⊢
  clear hw1
  have t1 : ((np : Int) == 1000) = false := by simp; omega
  obtain ⟨o0, of0⟩ := cell_one HAL.out.ot.cell
  go_upto_region 2 with fail
  clear t1
  go_cut [13, 14, 15, 16, 17] (fun _ _ _ _ _ wx => ∃ (ao' : Option Addr) (c' : Nat) (rows' : List Value), Hid (AL W n₀ O X (.slice ao np ac) (.slice po m pc) p ⟨v, ad, cap, bd, dap⟩ (ps ++ [p]) (.slice ao' (np + 1) c') rows' wx))
  case first =>
    have HD : Hid (AL W n₀ O X (.slice ao np ac) (.slice po m pc) p ⟨v, ad, cap, bd, dap⟩ ps (.slice ao np ac) rows W1.drew) := Lib.hid (HAL.out.keep (Gx.drewN_below W1 1 _))
    obtain ⟨po', pc', epo, hsr, -⟩ := SR.own HD.out.so rfl HC.out.wf
    rw [HM.out] at epo
    cases epo
    have hcl := clone_any po pc p _ hsr (by rw [HM.out]; omega)
    unfold ClonePost at hcl
    rw [HM.out] at hcl
    have HCL := Lib.hid hcl
    have hb0 := HAL.out.fr.size
    clear hsr hcl
    go_region_law (first
      | (go_simp; (with_reducible refine HCL.out.mono ?_); rintro e w5 ⟨co, cc, rfl, hso, hb5⟩; have h5 := HD.out.keep hb5; obtain ⟨k5, kf5⟩ := cell_one h5.ot.cell; obtain ⟨k5a, kf5a⟩ := cell_one (h5.keep ((Below.refl w5.heap.size w5).alloc (Nat.le_refl _) (.cells #[.slice co m cc] 27))).ot.cell; have H5 := Lib.hid h5; have HSO := Lib.hid hso; clear hso hb5 h5)
      | (refine step_rows w5 rfl (.tmp 13) (.tmp 16) rfl (O + 2) (.slice ao np ac) rows (.slice co m cc) rfl _ rfl rfl np (by have := H5.out.ot.own; rw [HNP.out] at this; exact this) rfl (by omega) (by have := H5.out.lt; have := HC.out.o1; omega) ?_; intro ao6 c6 w6 ho6 hg6 hm6; have h6c := (hg6.block O H5.out.ot.lt (fun e => by have := (H5.out.ot.own.lt O e.symm).1; omega)).trans H5.out.ot.cell; obtain ⟨k6, kf6⟩ := cell_one h6c; have HO6 := Lib.hid ho6; have HG6 := Lib.hid hg6; have HM6 := Lib.hid hm6; clear ho6 hg6 hm6 h6c))
    all_goals
      have HX := Lib.hid (H5.out.told HC.out (by rw [HM.out]; exact HSO.out) (show W.heap.size ≤ _ from hb0) (fun b hb => by have := (HC.out.vl b hb).2; have : W.heap.size ≤ W1.drew.heap.size := hb0; omega) (by rw [HM.out, HNP.out]; exact HO6.out) HG6.out HM6.out)
      rw [HM.out] at HX
      go_wp2_with fail
      go_meet
      exact ⟨ao6, c6, _, HX⟩
  case rest =>
    obtain ⟨ao1, c1, rows1, HL0⟩ := hcut
    clear HAL o0 of0
    obtain ⟨nl, hnl⟩ : ∃ nl, v.l.length = nl := ⟨_, rfl⟩
    obtain ⟨ne, hne⟩ : ∃ ne, v.e.length = ne := ⟨_, rfl⟩
    obtain ⟨a0, a1, a2, a3, a4, a5⟩ := HL0.out.box
    simp only at a0 a1 a2 a3 a4 a5
    rw [hnl] at a4 hl1
    rw [hne] at a5 he1
    rw [hnl, hne]
    have HNL := Lib.hid hnl
    have HNE := Lib.hid hne
    have HGL : Hid (∀ x ∈ v.l, Gd d x) := Lib.hid (fun x hx => HG.out.2.2 x (List.mem_append_left _ hx))
    have HGE : Hid (∀ x ∈ v.e, Gd d x.2) := Lib.hid (fun x hx => HG.out.2.2 x.2 (List.mem_append_right _ (List.mem_map_of_mem hx)))
    have HNS : Hid (v.nodes = 1 + nodesL v.l + nodesL (v.e.map Prod.snd)) := Lib.hid (by rw [HNN.out]; unfold V.parts; rw [nodesL_app]; omega)
    clear hnl hne
    go_wp2_with fail
    clear a0 a1 a2 a3 a4 a5
    go_loopw [21] (fun v21 wr => ∃ (k : Nat) (vo : Value) (rows' : List Value), k ≤ nl ∧ v21 = .int .i64 k ∧ Hid (AL W n₀ O X (.slice ao np ac) (.slice po m pc) p ⟨v, ad, cap, bd, dap⟩ (ps ++ [p] ++ pathsL (pathsD d) p 0 (v.l.take k)) vo rows' wr)) (fun v21 _ => nl - (intOf v21).toNat)
    case atStart => exact ⟨0, _, rows1, Nat.zero_le _, rfl, Lib.hid (by rw [List.take_zero, show pathsL (pathsD d) p 0 [] = [] from rfl, List.append_nil]; exact HL0.out)⟩
    case round =>
      obtain ⟨k, vo, rows', hk, rfl, HL⟩ := hrel
      clear HL0
      by_cases hlt : k < nl
      · obtain ⟨x, hx⟩ : ∃ x, v.l[k]? = some x := ⟨_, List.getElem?_eq_getElem (by rw [HNL.out]; exact hlt)⟩
        obtain ⟨b1, o1, hd1, -, hbl1, hcs1⟩ := HL.out.at_.l.elem (by show 0 < v.l.length; rw [HNL.out]; omega)
        simp only at hd1
        subst hd1
        obtain ⟨q1, hq1, hv1, hg1⟩ := hcs1 k x hx
        clear hcs1
        obtain ⟨c0, c1', c2, c3, c4, c5⟩ := hg1
        have r1 : (0 : Int) ≤ (k : Int) := by omega
        have r2 : (k : Int) < (nl : Int) := by omega
        have r4 : (k : Int).toNat = k := rfl
        have hba := (Below.refl wr.heap.size wr).alloc (Nat.le_refl _) (.cells #[.int .i64 q1.v.k, .int .i64 q1.v.n, .int .u64 q1.v.f, .string q1.v.s, .slice q1.ad q1.v.l.length q1.cap, .slice q1.bd q1.v.e.length q1.dap] 26)
        have hal := HL.out.keep hba
        have hvb := hv1.keep hba
        have hcb := CellsAt.box (q := q1) (heap_alloc_new wr (.cells #[.int .i64 q1.v.k, .int .i64 q1.v.n, .int .u64 q1.v.f, .string q1.v.s, .slice q1.ad q1.v.l.length q1.cap, .slice q1.bd q1.v.e.length q1.dap] 26))
        have hwl : wr.heap.size < (wr.alloc (.cells #[.int .i64 q1.v.k, .int .i64 q1.v.n, .int .u64 q1.v.f, .string q1.v.s, .slice q1.ad q1.v.l.length q1.cap, .slice q1.bd q1.v.e.length q1.dap] 26)).heap.size := by simp
        have hxl := HL.out.lt
        have HTK := Lib.hid (take_succ' hx)
        have HMEM : Hid (q1.v ∈ v.parts) := Lib.hid (by rw [hq1]; exact List.mem_append_left _ (List.mem_of_getElem? hx))
        have HQV : Hid (q1.v = x) := Lib.hid hq1
        have HLEN : Hid ((ps ++ [p] ++ pathsL (pathsD d) p 0 (v.l.take k)).length + q1.v.nodes ≤ 1000) := Lib.hid (by
          rw [List.length_append, List.length_append, HNP.out, pathsL_len _ _ (fun y hy => HGL.out y (List.mem_of_mem_take hy)), List.length_singleton, hq1]
          have h1 := nodes_take hx
          have h2 := HNS.out
          omega)
        have HPL : Hid ((p ++ [idxStep k]).length + d ≤ 20) := Lib.hid (by rw [List.length_append, HM.out, List.length_singleton]; omega)
        have HTW : Hid ((Lit.int .i64 (idxStep k).2).wf = true ∧ (idxStep k).1.length ≤ 9223372036854775807) := Lib.hid ⟨by simp [idxStep, Lit.wf, IntKind.min, IntKind.max, IntKind.signed, IntKind.bits]; omega, Nat.zero_le _⟩
        clear hx hq1 hv1 hba HL
        go_upto_region 6 with fail
        generalize hwx : World.alloc wr _ = wx at hal hvb hcb hwl ⊢
        generalize hxb : wr.heap.size = xb at hcb hwl hxl ⊢
        have HD : Hid (AL W n₀ O X (.slice ao np ac) (.slice po m pc) p ⟨v, some ⟨b1, o1, none⟩, cap, bd, dap⟩ (ps ++ [p] ++ pathsL (pathsD d) p 0 (v.l.take k)) vo rows' wx.drew) := Lib.hid (hal.keep (Gx.drewN_below wx 1 _))
        have HV : Hid (VAt wx.drew (fun b => b < n₀) q1) := Lib.hid (hvb.keep (Gx.drewN_below wx 1 _))
        have HXL : Hid (xb < wx.drew.heap.size) := Lib.hid hwl
        have HXB : Hid (CellsAt wx.drew xb 0 q1) := Lib.hid (hcb.through rfl)
        have HXG : Hid (W.heap.size < xb) := Lib.hid hxl
        have fn0 := hal.fn
        have hbb := (Below.refl wx.heap.size wx).alloc (Nat.le_refl _) (.cells #[.string ⟨#[]⟩, .int .i64 k] 33)
        have fn1 := (hal.keep hbb).fn
        obtain ⟨g0, g1, g2, g3, g4, g5⟩ := hcb.through (hbb.block _ hwl)
        obtain ⟨e0, e1, e2, e3, e4, e5⟩ := hcb
        clear hwx hxb hal hvb hwl hxl hbb c0 c1' c2 c3 c4 c5
        go_region_law (first
          | (go_simp; (with_reducible refine HCALL.out.mono ?_); rintro e w7 ⟨⟨rv, rfl⟩, vo7, rows7, ho7, hs7, hf7, hv7⟩; have HA7 := Lib.hid (HD.out.back HC.out HS1.out HS0.out HG6.out HM6.out ho7 hs7 hf7 hv7); clear ho7 hs7 hf7 hv7)
          | (refine step_step wx.drew rfl (.tmp 28) (.tmp 31) rfl (O + 2) (.slice po m pc) p (idxStep k) _ rfl rfl m HM.out HD.out.so rfl (by omega) (by have := HXL.out; have := HXG.out; have := HC.out.o1; omega) ?_; intro ao6 c6 w6 hs1 hs0 hg6 hm6; have hai := HD.out.child HC.out hs1 hg6 hm6 HTW.out; have fn6 := hai.fn; obtain ⟨k0, k1, k2, k3, k4, k5⟩ := HXB.out.through (hg6.block _ HXL.out (fun e => by have := (HC.out.xl _ (HC.out.xp _ e.symm)).2; have := HXG.out; omega)); have hvv := HV.out.grow hg6 (fun b e hb => by have := (HC.out.xl _ (HC.out.xp _ e)).1; have := HC.out.n0; omega); have hcl := HI.out q1 w6 n₀ O _ _ vo rows' _ _ HMEM.out hvv hai HLEN.out HPL.out; simp only [Loc.val] at hcl; have HCALL := Lib.hid hcl; have HS1 := Lib.hid hs1; have HS0 := Lib.hid hs0; have HG6 := Lib.hid hg6; have HM6 := Lib.hid hm6; clear hs1 hs0 hg6 hm6 hai hvv hcl))
        all_goals
          have H7 : Hid (AL W n₀ O X (.slice ao np ac) (.slice po m pc) p ⟨v, some ⟨b1, o1, none⟩, cap, bd, dap⟩ (ps ++ [p] ++ pathsL (pathsD d) p 0 (v.l.take (k + 1))) vo7 rows7 w7) := Lib.hid (by
            have h7 := HA7.out
            have hl : (v.l.take k).length = k := by rw [List.length_take, HNL.out]; omega
            rw [HTK.out, pathsL_snoc, ← List.append_assoc, hl, Nat.zero_add, ← HQV.out]
            exact h7)
          go_wp2_with fail
          go_roundw
          case rel => exact ⟨k + 1, vo7, rows7, by omega, by go_num, H7⟩
          case measure => simp [intOf]; omega
      · obtain rfl : k = nl := by omega
        have HL1 : Hid (AL W n₀ O X (.slice ao np ac) (.slice po m pc) p ⟨v, ad, cap, bd, dap⟩ (ps ++ [p] ++ pathsL (pathsD d) p 0 v.l) vo rows' wr) := Lib.hid (by
          have h1 := HL.out
          rwa [← HNL.out, List.take_length] at h1)
        obtain ⟨wo, hwo⟩ : ∃ wo : World, wo = wr := ⟨_, rfl⟩
        rw [← hwo] at HL1 ⊢
        clear hwo HL wr hlt hk
        have a5 := HL1.out.box.c5
        simp only [HNE.out] at a5
        go_wp2_with fail
        clear a5
        go_loopw [38] (fun v38 wr => ∃ (j : Nat) (vo : Value) (rows' : List Value), j ≤ ne ∧ v38 = .int .i64 j ∧ Hid (AL W n₀ O X (.slice ao np ac) (.slice po m pc) p ⟨v, ad, cap, bd, dap⟩ (ps ++ [p] ++ pathsL (pathsD d) p 0 v.l ++ pathsE (pathsD d) p (v.e.take j)) vo rows' wr)) (fun v38 _ => ne - (intOf v38).toNat)
        case atStart => exact ⟨0, _, rows', Nat.zero_le _, rfl, Lib.hid (by rw [List.take_zero, show pathsE (pathsD d) p [] = [] from rfl, List.append_nil]; exact HL1.out)⟩
        case round =>
          obtain ⟨j, vo2, rows2, hj, rfl, HL⟩ := hrel
          clear HL1
          by_cases hlt : j < ne
          · obtain ⟨x, hx⟩ : ∃ x, v.e[j]? = some x := ⟨_, List.getElem?_eq_getElem (by rw [HNE.out]; exact hlt)⟩
            obtain ⟨b1, o1, hd1, -, hbl1, hcs1⟩ := HL.out.at_.e.entry (by show 0 < v.e.length; rw [HNE.out]; omega)
            simp only at hd1
            subst hd1
            obtain ⟨hkl, gk1, q1, hq1, hv1, hg1⟩ := hcs1 j x hx
            clear hcs1
            obtain ⟨c0, c1', c2, c3, c4, c5⟩ := hg1.seven
            obtain ⟨s, hs⟩ : ∃ s, x.1 = s := ⟨_, rfl⟩
            rw [hs] at hkl gk1
            have r1 : (0 : Int) ≤ (j : Int) := by omega
            have r2 : (j : Int) < (ne : Int) := by omega
            have r4 : (j : Int).toNat = j := rfl
            have hba := (Below.refl wr.heap.size wr).alloc (Nat.le_refl _) (.cells #[.string s, .int .i64 q1.v.k, .int .i64 q1.v.n, .int .u64 q1.v.f, .string q1.v.s, .slice q1.ad q1.v.l.length q1.cap, .slice q1.bd q1.v.e.length q1.dap] 50)
            have hal := HL.out.keep hba
            have hvb := hv1.keep hba
            have hcb := heap_alloc_new wr (.cells #[.string s, .int .i64 q1.v.k, .int .i64 q1.v.n, .int .u64 q1.v.f, .string q1.v.s, .slice q1.ad q1.v.l.length q1.cap, .slice q1.bd q1.v.e.length q1.dap] 50)
            have hwl : wr.heap.size < (wr.alloc (.cells #[.string s, .int .i64 q1.v.k, .int .i64 q1.v.n, .int .u64 q1.v.f, .string q1.v.s, .slice q1.ad q1.v.l.length q1.cap, .slice q1.bd q1.v.e.length q1.dap] 50)).heap.size := by simp
            have hxl := HL.out.lt
            have HTK := Lib.hid (take_succ' hx)
            have HMEM : Hid (q1.v ∈ v.parts) := Lib.hid (by rw [hq1]; exact List.mem_append_right _ (List.mem_map_of_mem (List.mem_of_getElem? hx)))
            have HQV : Hid (q1.v = x.2) := Lib.hid hq1
            have HKS : Hid (x.1 = s) := Lib.hid hs
            have HLEN : Hid ((ps ++ [p] ++ pathsL (pathsD d) p 0 v.l ++ pathsE (pathsD d) p (v.e.take j)).length + q1.v.nodes ≤ 1000) := Lib.hid (by
              rw [List.length_append, List.length_append, List.length_append, HNP.out, pathsL_len _ _ HGL.out, pathsE_len _ (fun y hy => HGE.out y (List.mem_of_mem_take hy)), List.length_singleton, hq1, List.map_take]
              have h1 := nodes_take (l := v.e.map Prod.snd) (k := j) (x := x.2) (by rw [List.getElem?_map, hx]; rfl)
              have h2 := HNS.out
              omega)
            have HPL : Hid ((p ++ [keyStep s]).length + d ≤ 20) := Lib.hid (by rw [List.length_append, HM.out, List.length_singleton]; omega)
            have HTW : Hid ((Lit.int .i64 (keyStep s).2).wf = true ∧ (keyStep s).1.length ≤ 9223372036854775807) := Lib.hid ⟨rfl, by
              have : s.data.toList.length = s.size := Array.length_toList
              show s.data.toList.length ≤ _
              omega⟩
            clear hx hq1 hv1 hba HL hs hkl
            go_upto_region 11 with fail
            generalize hwx : World.alloc wr _ = wx at hal hvb hcb hwl ⊢
            generalize hxb : wr.heap.size = xb at hcb hwl hxl ⊢
            have HD : Hid (AL W n₀ O X (.slice ao np ac) (.slice po m pc) p ⟨v, ad, cap, some ⟨b1, o1, none⟩, dap⟩ (ps ++ [p] ++ pathsL (pathsD d) p 0 v.l ++ pathsE (pathsD d) p (v.e.take j)) vo2 rows2 wx.drew) := Lib.hid (hal.keep (Gx.drewN_below wx 1 _))
            have HV : Hid (VAt wx.drew (fun b => b < n₀) q1) := Lib.hid (hvb.keep (Gx.drewN_below wx 1 _))
            have HXL : Hid (xb < wx.drew.heap.size) := Lib.hid hwl
            have HXB : Hid (wx.drew.heap[xb]? = some (.cells #[.string s, .int .i64 q1.v.k, .int .i64 q1.v.n, .int .u64 q1.v.f, .string q1.v.s, .slice q1.ad q1.v.l.length q1.cap, .slice q1.bd q1.v.e.length q1.dap] 50)) := Lib.hid hcb
            have HXG : Hid (W.heap.size < xb) := Lib.hid hxl
            have fn0 := hal.fn
            have hbb := (Below.refl wx.heap.size wx).alloc (Nat.le_refl _) (.cells #[.string s, .int .i64 (-1)] 33)
            have fn1 := (hal.keep hbb).fn
            obtain ⟨g0, g1, g2, g3, g4, g5, g6⟩ := seven_cells ((hbb.block _ hwl).trans hcb)
            obtain ⟨e0, e1, e2, e3, e4, e5, e6⟩ := seven_cells hcb
            clear hwx hxb hal hvb hwl hxl hbb c0 c1' c2 c3 c4 c5 gk1 hcb
            go_region_law (first
              | (go_simp; (with_reducible refine HCALL.out.mono ?_); rintro e w7 ⟨⟨rv, rfl⟩, vo7, rows7, ho7, hs7, hf7, hv7⟩; have HA7 := Lib.hid (HD.out.back HC.out HS1.out HS0.out HG6.out HM6.out ho7 hs7 hf7 hv7); clear ho7 hs7 hf7 hv7)
              | (refine step_step wx.drew rfl (.tmp 45) (.tmp 49) rfl (O + 2) (.slice po m pc) p (keyStep s) _ (by rw [show bs (keyStep s).1 = s from bs_key s]; rfl) rfl m HM.out HD.out.so rfl (by omega) (by have := HXL.out; have := HXG.out; have := HC.out.o1; omega) ?_; intro ao6 c6 w6 hs1 hs0 hg6 hm6; have hai := HD.out.child HC.out hs1 hg6 hm6 HTW.out; have fn6 := hai.fn; obtain ⟨k0, k1, k2, k3, k4, k5, k6⟩ := seven_cells ((hg6.block _ HXL.out (fun e => by have := (HC.out.xl _ (HC.out.xp _ e.symm)).2; have := HXG.out; omega)).trans HXB.out); have hvv := HV.out.grow hg6 (fun b e hb => by have := (HC.out.xl _ (HC.out.xp _ e)).1; have := HC.out.n0; omega); have hcl := HI.out q1 w6 n₀ O _ _ vo2 rows2 _ _ HMEM.out hvv hai HLEN.out HPL.out; simp only [Loc.val] at hcl; have HCALL := Lib.hid hcl; have HS1 := Lib.hid hs1; have HS0 := Lib.hid hs0; have HG6 := Lib.hid hg6; have HM6 := Lib.hid hm6; clear hs1 hs0 hg6 hm6 hai hvv hcl))
            all_goals
              have H7 : Hid (AL W n₀ O X (.slice ao np ac) (.slice po m pc) p ⟨v, ad, cap, some ⟨b1, o1, none⟩, dap⟩ (ps ++ [p] ++ pathsL (pathsD d) p 0 v.l ++ pathsE (pathsD d) p (v.e.take (j + 1))) vo7 rows7 w7) := Lib.hid (by
                have h7 := HA7.out
                rw [HTK.out, pathsE_snoc, ← List.append_assoc, HKS.out, ← HQV.out]
                exact h7)
              go_wp2_with fail
              go_roundw
              case rel => exact ⟨j + 1, vo7, rows7, by omega, by go_num, H7⟩
              case measure => simp [intOf]; omega
          · obtain rfl : j = ne := by omega
            have HL2 : Hid (AL W n₀ O X (.slice ao np ac) (.slice po m pc) p ⟨v, ad, cap, bd, dap⟩ (ps ++ pathsD (d + 1) v p) vo2 rows2 wr) := Lib.hid (by
              have h1 := HL.out
              rw [← HNE.out, List.take_length] at h1
              have e : ps ++ pathsD (d + 1) v p = ps ++ [p] ++ pathsL (pathsD d) p 0 v.l ++ pathsE (pathsD d) p v.e := by simp [pathsD]
              rw [e]; exact h1)
            clear HL
            go_wp2_with fail
            first
              | go_end0
              | refine bodyPost_ret (results_none rfl _ _ _) rfl ?_
            exact ⟨⟨_, rfl⟩, vo2, rows2, HL2.out.ot, HL2.out.so, HL2.out.fr, fun b hb => by
              rcases HL2.out.vo_ b hb with h | h
              · exact .inl h
              · right; omega⟩
/-- the paths of a value are told behind the others -/
theorem all1_any : ∀ (d : Nat) (q : Loc) (W : World) (n₀ O : Nat) (X : Nat → Prop) (ps : List (List Step)) (vo : Value) (rows : List Value) (pv : Value) (p : List Step), Gd d q.v → VAt W (fun b => b < n₀) q → AI W n₀ O X ps vo rows pv p → ps.length + q.v.nodes ≤ 1000 → p.length + d ≤ 20 →
      Calls Tryd.prog 20 #[q.val, pv, .pointer (some ⟨O, 0, none⟩), .pointer (some ⟨O + 1, 0, none⟩)] W (AllPost O X ps (pathsD d q.v p) vo pv p W)
  | 0, q, _, _, _, _, _, _, _, _, _, hg, _, _, _, _ => hg.elim
  | d + 1, q, W, n₀, O, X, ps, vo, rows, pv, p, hg, hq, h, hn, hd =>
    all1_step d q.v hg (fun q' W' n' O' X' ps' vo' rows' pv' p' hm hq' h' hn' hd' => all1_any d q' W' n' O' X' ps' vo' rows' pv' p' (hg.2.2 _ hm) hq' h' hn' hd') q.ad q.bd q.cap q.dap W n₀ O X ps vo rows pv p hq h hn hd
end Go.Proofs.YtpjigecmnefnhaaDoor
