/-
  The memory of path.All: rows of steps, and the row of such rows. No conditions.
-/
import Derived.Test.YtpjigecmnefnhaaDoorAllLaw
import Derived.Test.YtpjigecmnefnhaaDoorSix
import Derived.Test.YtpjigecmnefnhaaDoorStepClone
import Derived.Deep.RegionLaw
import Derived.Deep.DeepAppendRoom
namespace Go.Proofs.YtpjigecmnefnhaaDoor
open Go.RowKit Gx
set_option maxRecDepth 100000

theorem Tryd.info_steps : (Tryd.prog.info? 27).map (fun i => (i.zero, i.size, i.bytes)) = some (some (.slice none 0 0), 1, 24) := by kernel_rfl
/-- what is written: the blocks of S alone, and new ones -/
structure Fr (W W' : World) (S : Nat → Prop) : Prop where
  os : W'.os = W.os
  tape : W'.tape = W.tape
  output : W'.output = W.output
  size : W.heap.size ≤ W'.heap.size
  block : ∀ i, i < W.heap.size → ¬ S i → W'.heap[i]? = W.heap[i]?
theorem Fr.refl (W : World) (S : Nat → Prop) : Fr W W S := ⟨rfl, rfl, rfl, Nat.le_refl _, fun _ _ _ => rfl⟩
theorem Fr.of_grown {W W' : World} {r : Option Nat} {S : Nat → Prop} (h : W.grownBy W' r) (hr : ∀ b, r = some b → S b) : Fr W W' S := ⟨h.os, h.tape, h.output, h.size, fun i hi hn => h.block i hi (fun e => hn (hr i e.symm))⟩
theorem Fr.of_below {W W' : World} {S : Nat → Prop} (h : Below W.heap.size W W') : Fr W W' S := ⟨h.os, h.tape, h.output, h.size, fun i hi _ => h.block i hi⟩
theorem Fr.trans {W W1 W2 : World} {S S' : Nat → Prop} (h : Fr W W1 S) (k : Fr W1 W2 S') (hs : ∀ i, i < W.heap.size → S' i → S i) : Fr W W2 S :=
  ⟨k.os.trans h.os, k.tape.trans h.tape, k.output.trans h.output, Nat.le_trans h.size k.size, fun i hi hn => (k.block i (Nat.lt_of_lt_of_le hi h.size) (fun e => hn (hs i hi e))).trans (h.block i hi hn)⟩
theorem Fr.below {W W' : World} {S : Nat → Prop} {n : Nat} (h : Fr W W' S) (hn : n ≤ W.heap.size) (hs : ∀ b, S b → n ≤ b) : Below n W W' := ⟨h.os, h.tape, h.output, h.size, fun i hi => h.block i (by omega) (fun e => by have := hs i e; omega)⟩
theorem Fr.cell {W W' : World} {S : Nat → Prop} (h : Fr W W' S) {b o : Nat} (hb : b < W.heap.size) (hs : ¬ S b) : W'.cell? ⟨b, o, none⟩ = W.cell? ⟨b, o, none⟩ := World.cell?_of_block (h.block b hb hs)
theorem SR.at' {w w' : World} {ad : Option Addr} {cap : Nat} {l : List Step} (h : SR w ad cap l) (hs : w.heap.size ≤ w'.heap.size) (hb : ∀ a, ad = some a → 0 < l.length → w'.heap[a.block]? = w.heap[a.block]?) : SR w' ad cap l := by
  refine ⟨h.ncap, h.cap63, h.wf, h.none_, fun a ha hp => ?_⟩
  obtain ⟨h1, h2, h3⟩ := h.at_ a ha hp
  have hk : ∀ o, w'.cell? ⟨a.block, o, none⟩ = w.cell? ⟨a.block, o, none⟩ := fun o => World.cell?_of_block (hb a ha hp)
  refine ⟨h1, Nat.lt_of_lt_of_le h2 hs, fun j q hj => ?_⟩
  rw [hk, hk]
  exact h3 j q hj
/-- the row of rows of steps -/
structure OT (W : World) (O : Nat) (X : Nat → Prop) (ps : List (List Step)) (vo : Value) (rows : List Value) : Prop where
  cell : W.heap[O]? = some (.cells #[vo] 40)
  own : W.ownsRow (O + 2) 27 1 vo ps.length rows
  at_ : ∀ (j : Nat) (p : List Step), ps[j]? = some p → ∃ ad cap, rows[j]? = some (.slice ad p.length cap) ∧ SR W ad cap p ∧ ∀ a, ad = some a → 0 < p.length → O + 2 ≤ a.block ∧ vo.ownBlock ≠ some a.block ∧ ¬ X a.block
  nx : ∀ b, vo.ownBlock = some b → ¬ X b
theorem OT.lt {W : World} {O : Nat} {X : Nat → Prop} {ps : List (List Step)} {vo : Value} {rows : List Value} (h : OT W O X ps vo rows) : O < W.heap.size := (Array.getElem?_eq_some_iff.1 h.cell).1
theorem OT.form {W : World} {O : Nat} {X : Nat → Prop} {ps : List (List Step)} {vo : Value} {rows : List Value} (h : OT W O X ps vo rows) : ∃ ao c, vo = .slice ao ps.length c := own_form h.own
/-- another row was written -/
theorem OT.grow {W W' : World} {O : Nat} {X : Nat → Prop} {ps : List (List Step)} {vo : Value} {rows : List Value} {r : Option Nat} (h : OT W O X ps vo rows) (hg : W.grownBy W' r) (hr : ∀ b, r = some b → O + 2 ≤ b ∧ (X b ∨ W.heap.size ≤ b)) : OT W' O X ps vo rows := by
  have hl := h.lt
  refine ⟨(hg.block O hl (fun e => by have := (hr O e.symm).1; omega)).trans h.cell, h.own.kept hg ?_, fun j p hj => ?_, h.nx⟩
  · cases hv : vo.ownBlock with
    | none => exact .inl rfl
    | some b =>
      refine .inr (fun e => ?_)
      have := (h.own.lt b hv).2
      rcases (hr b e.symm).2 with hx | hx
      · exact h.nx b hv hx
      · omega
  · obtain ⟨ad, cap, h1, h2, h3⟩ := h.at_ j p hj
    refine ⟨ad, cap, h1, h2.at' hg.size (fun a ha hp => hg.block _ (h2.at_ a ha hp).2.1 (fun e => ?_)), h3⟩
    have := (h2.at_ a ha hp).2.1
    rcases (hr _ e.symm).2 with hx | hx
    · exact (h3 a ha hp).2.2 hx
    · omega
theorem OT.keep {W W' : World} {O : Nat} {X : Nat → Prop} {ps : List (List Step)} {vo : Value} {rows : List Value} (h : OT W O X ps vo rows) (hb : Below W.heap.size W W') : OT W' O X ps vo rows := h.grow (grown_none hb) (fun _ e => by cases e)
/-- fewer blocks to keep clear of -/
theorem OT.less {W : World} {O : Nat} {X Y : Nat → Prop} {ps : List (List Step)} {vo : Value} {rows : List Value} (h : OT W O X ps vo rows) (hy : ∀ b, b < W.heap.size → Y b → X b) : OT W O Y ps vo rows :=
  ⟨h.cell, h.own, fun j p hj => by
    obtain ⟨ad, cap, h1, h2, h3⟩ := h.at_ j p hj
    exact ⟨ad, cap, h1, h2, fun a ha hp => ⟨(h3 a ha hp).1, (h3 a ha hp).2.1, fun hb => (h3 a ha hp).2.2 (hy _ (h2.at_ a ha hp).2.1 hb)⟩⟩, fun b hb hx => h.nx b hb (hy b (h.own.lt b hb).2 hx)⟩
/-- one more row, behind the others -/
theorem OT.push {W W' : World} {O : Nat} {X : Nat → Prop} {ps : List (List Step)} {vo vo' : Value} {rows : List Value} {p : List Step} {ad : Option Addr} {cap : Nat} (h : OT W O X ps vo rows) (hX : ∀ b, X b → b < W.heap.size)
    (hp : SR W ad cap p) (ha : ∀ a, ad = some a → 0 < p.length → O + 2 ≤ a.block ∧ vo.ownBlock ≠ some a.block ∧ ¬ X a.block)
    (ho : W'.ownsRow (O + 2) 27 1 vo' (ps.length + 1) (rows ++ [.slice ad p.length cap])) (hg : W.grownBy W' vo.ownBlock) (hm : Moved vo vo' W.heap.size) :
    OT (W'.setCell ⟨O, 0, none⟩ vo') O X (ps ++ [p]) vo' (rows ++ [.slice ad p.length cap]) := by
  have hl := h.lt
  have hO : vo.ownBlock ≠ some O := fun e => by have := (h.own.lt O e).1; omega
  have hc : W'.heap[O]? = some (.cells #[vo] 40) := (hg.block O hl (fun e => hO e.symm)).trans h.cell
  have hg2 := grown_cell W' O 0 vo'
  have hblk : ∀ b, b < W.heap.size → b ≠ O → vo.ownBlock ≠ some b → (W'.setCell ⟨O, 0, none⟩ vo').heap[b]? = W.heap[b]? := fun b hb h1 h2 =>
    (hg2.block b (Nat.lt_of_lt_of_le hb hg.size) (fun e => h1 (Option.some.inj e))).trans (hg.block b hb (fun e => h2 e.symm))
  have hne : ∀ b, b < W.heap.size → vo.ownBlock ≠ some b → vo'.ownBlock ≠ some b := fun b hb h1 e => by
    rcases hm with hm | ⟨g, hm, hgl⟩
    · exact h1 (by rw [← hm]; exact e)
    · rw [hm] at e; have := Option.some.inj e; omega
  have hrl : rows.length = ps.length := by have := h.own.1; simpa using this
  refine ⟨by simp [World.setCell, Array.getElem?_modify, hc], ?_, fun j q hj => ?_, fun b hb => ?_⟩
  · rw [List.length_append]
    exact ho.kept hg2 (by
      cases hv : vo'.ownBlock with
      | none => exact .inl rfl
      | some b => exact .inr (fun e => by have := (ho.lt b hv).1; have := Option.some.inj e; omega))
  · by_cases hjl : j < ps.length
    · rw [List.getElem?_append_left hjl] at hj
      obtain ⟨ad', cap', h1, h2, h3⟩ := h.at_ j q hj
      refine ⟨ad', cap', by rw [List.getElem?_append_left (by omega)]; exact h1, h2.at' (Nat.le_trans hg.size hg2.size) (fun a ha hp => hblk _ (h2.at_ a ha hp).2.1 (fun e => by have := (h3 a ha hp).1; omega) (h3 a ha hp).2.1), fun a ha hp => ⟨(h3 a ha hp).1, hne _ (h2.at_ a ha hp).2.1 (h3 a ha hp).2.1, (h3 a ha hp).2.2⟩⟩
    · have hje : j = ps.length := by have := (List.getElem?_eq_some_iff.1 hj).1; rw [List.length_append, List.length_singleton] at this; omega
      subst hje
      rw [List.getElem?_append_right (Nat.le_refl _), Nat.sub_self] at hj
      obtain rfl : p = q := by simpa using hj
      refine ⟨ad, cap, by rw [List.getElem?_append_right (by omega), hrl, Nat.sub_self]; rfl, hp.at' (Nat.le_trans hg.size hg2.size) (fun a h1 h2 => hblk _ (hp.at_ a h1 h2).2.1 (fun e => by have := (ha a h1 h2).1; omega) (ha a h1 h2).2.1), fun a h1 h2 => ⟨(ha a h1 h2).1, hne _ (hp.at_ a h1 h2).2.1 (ha a h1 h2).2.1, (ha a h1 h2).2.2⟩⟩
  · rcases hm with hm | ⟨g, hm, hgl⟩
    · exact h.nx b (by rw [← hm]; exact hb)
    · intro hx
      have := hX b hx
      rw [hm] at hb
      have := Option.some.inj hb
      omega
/-- 'append(out, r)' within a region that draws its order -/
theorem step_rows {ops : Array Oper} {o : Oper} {ac : Act} {K : Act → World → Prop} {Q : Exit → Act → World → Prop} {F : Prop} (w : World) (hgd : o.guard = none) (s x : Operand)
    (ho : o.op = .call { callee := .builtin .append, args := #[s, x], argTypes := #[40, 40] })
    (base : Nat) (v : Value) (rows : List Value) (r : Value) (hr1 : r.oneCell' = true) (W : World) (ho' : W = w.alloc (.cells #[r] 27)) (hs : ac.eval s = v) (m : Nat) (hown : w.ownsRow base 27 1 v m rows)
    (hx : ac.eval x = .slice (some ⟨w.heap.size, 0, none⟩) 1 1) (h63 : m + 1 ≤ 1000000) (hbase : base ≤ w.heap.size)
    (h : ∀ ao c w', w'.ownsRow base 27 1 (.slice ao (m + 1) c) (m + 1) (rows ++ [r]) → w.grownBy w' v.ownBlock → Moved v (.slice ao (m + 1) c) w.heap.size → K (ac.put o.dst (.slice ao (m + 1) c)) w') :
    if Region.wanted o (yielded ops ac.tmps) = true then Oper.wp Tryd.prog o ac W K Q else F := by
  subst ho'
  obtain ⟨i0, hi, hz0, hz1, hz2⟩ := info_parts Tryd.info_steps
  have hw : Region.wanted o (yielded ops ac.tmps) = true := by simp [Region.wanted, hgd]
  rw [if_pos hw]
  obtain ⟨v', w', hr, ho2, hg, hm, hnn⟩ := run_append_moved (P := Tryd.prog) (w.alloc (.cells #[r] 27)) base 40 o.type 27 i0 (.slice none 0 0) 1 24 Tryd.underlying40 hi hz0 hz1 hz2 rfl (by decide) v m rows
    (World.ownsRow.alloc hown _) ⟨w.heap.size, 0, none⟩ 1 1 [r] rfl
    (fun j u hj => by
      rw [Addr.add_lit]
      have := World.cell?_alloc_mark w #[r] 27 (0, 0) (0 + j)
      rw [this]; simpa using hj)
    (fun u hu => by rw [List.mem_singleton.1 hu]; exact hr1) (by omega) (by unfold maxLen; omega) (by simp; omega)
  have hg' := grown_alloc' (.cells #[r] 27) hg
  have hm' : Moved v v' w.heap.size := by
    rcases hm with hm | ⟨g, hm, hgl⟩
    · exact .inl hm
    · exact .inr ⟨g, hm, by simp at hgl; omega⟩
  obtain ⟨ao, c, rfl⟩ := own_form ho2
  unfold Oper.wp execOp
  simp only [ho, resolve, invoke, builtin, Sem.run_bind, Sem.run_pure, Result.andThen_ok, List.map_toArray, List.map_cons, List.map_nil, hs, hx, hr]
  exact h ao c w' ho2 hg' hm'
/-- what was appended to is still there -/
theorem own_front {w : World} {base : Nat} {e : TypeId} {size : Nat} {a : Addr} {n m cap : Nat} {xs ys : List Value} (h : w.ownsRow base e size (.slice (some a) (n + m) cap) (n + m) (xs ++ ys)) (hx : xs.length = n * size) : w.ownsRow base e size (.slice (some a) n cap) n xs := by
  refine ⟨hx, ?_⟩
  rcases h.2 with ⟨h1, h2⟩ | ⟨g, cap', cur, hv, hb, hg, hnc, hcm, hcs, ht⟩
  · cases h1
  · cases hv
    refine .inr ⟨g, cap, cur, rfl, hb, hg, by omega, hcm, hcs, ?_⟩
    have h3 : (cur.toList.take ((n + m) * size)).take (n * size) = (xs ++ ys).take (n * size) := by rw [ht]
    rw [List.take_take, Nat.min_eq_left (Nat.mul_le_mul_right _ (by omega)), ← hx, List.take_left] at h3
    rw [← hx]; exact h3
/-- two rows in one block have one capacity -/
theorem own_cap {w : World} {base : Nat} {e : TypeId} {size : Nat} {n n' : Nat} {v v' : Value} {xs xs' : List Value} (hs : 0 < size) (h : w.ownsRow base e size v n xs) (h' : w.ownsRow base e size v' n' xs') {g : Nat} (hg : v.ownBlock = some g) (hg' : v'.ownBlock = some g) :
    ∃ cap, v = .slice (some ⟨g, 0, none⟩) n cap ∧ v' = .slice (some ⟨g, 0, none⟩) n' cap := by
  rcases h.2 with ⟨rfl, -⟩ | ⟨b, cap, cur, rfl, -, hb, -, -, hcs, -⟩
  · cases hg
  rcases h'.2 with ⟨rfl, -⟩ | ⟨b', cap', cur', rfl, -, hb', -, -, hcs', -⟩
  · cases hg'
  cases hg
  cases hg'
  rw [hb] at hb'
  cases hb'
  have : cap = cap' := Nat.eq_of_mul_eq_mul_right hs (hcs.symm.trans hcs')
  subst this
  exact ⟨cap, rfl, rfl⟩
/-- a row whose block is as it was -/
theorem own_same {w w' : World} {base : Nat} {e : TypeId} {size : Nat} {n : Nat} {v : Value} {xs : List Value} (h : w.ownsRow base e size v n xs) (hb : ∀ g, v.ownBlock = some g → w'.heap[g]? = w.heap[g]?) : w'.ownsRow base e size v n xs := by
  refine ⟨h.1, ?_⟩
  rcases h.2 with h2 | ⟨g, cap, cur, hv, hg, hh, r⟩
  · exact .inl h2
  · exact .inr ⟨g, cap, cur, hv, hg, by rw [hb g (by rw [hv]; rfl)]; exact hh, r⟩
theorem cell_one {w : World} {b : Nat} {ty : TypeId} {a0 : Value} (h : w.heap[b]? = some (.cells #[a0] ty)) : w.cell? ⟨b, 0, none⟩ = some a0 ∧ w.frozen? ⟨b, 0, none⟩ = false :=
  ⟨by simp [World.cell?, h], by simp [World.frozen?, h]⟩
theorem run_append_kept {P : Program} (w : World) (base : Nat) (t ty e : TypeId) (i : TypeInfo) (z : Value) (size bytes : Nat) (ht : P.underlying t = some (.slice e)) (hi : P.info? e = some i) (hz : i.zero = some z)
    (hsize : i.size = size) (hby : i.bytes = bytes) (hzs : z.cells.size = size) (hsz : 0 < size)
    (v : Value) (n : Nat) (xs : List Value) (hown : w.ownsRow base e size v n xs)
    (a : Addr) (m c : Nat) (news : List Value) (hl : news.length = m * size) (hnews : ∀ j u, news[j]? = some u → w.cell? (a.add j) = some u) (h1 : ∀ u ∈ news, u.oneCell' = true)
    (hbytes : (n + m) * bytes ≤ 140737488355328) (h63 : n + m ≤ maxLen) (hbase : base ≤ w.heap.size) :
    ∃ v' w', (Builtin.append_ #[t, t] ty #[v, .slice (some a) m c]).run P w = .ok v' w' ∧ w'.ownsRow base e size v' (n + m) (xs ++ news) ∧ w.grownBy w' v.ownBlock ∧ Moved v v' w.heap.size ∧ w'.ownsRow base e size v n xs := by
  obtain ⟨v', w', hr, ho, hg, hm, hn⟩ := run_append_moved (P := P) w base t ty e i z size bytes ht hi hz hsize hby hzs hsz v n xs hown a m c news hl hnews h1 hbytes h63 hbase
  refine ⟨v', w', hr, ho, hg, hm, ?_⟩
  have hsmall : n + m ≤ 9223372036854775807 := by simp only [maxLen] at h63; omega
  have hown0 := hown
  rcases hown.2 with ⟨rfl, rfl⟩ | ⟨g, cap, cur, rfl, hbg, hgg, hnc, hcm, hcs, htake⟩
  · have hx : xs = [] := List.eq_nil_of_length_eq_zero (by simpa using hown.1)
    subst hx
    exact World.ownsRow_nil _ _ _ _
  · by_cases hroom : n + m ≤ cap
    · obtain ⟨w2, hr2, ho2, -⟩ := run_append_own_spare (P := P) w base t ty e i size ht hi hsize g n cap xs hown0 a m c news hl hnews h1 hroom
      rw [hr] at hr2
      obtain ⟨rfl, rfl⟩ := hr2
      exact own_front ho2 hown0.1
    · subst hsize; subst hby
      have holds : ∀ j u, xs[j]? = some u → w.cell? ((⟨g, 0, none⟩ : Addr).add j) = some u := hown0.cells (g := g) rfl
      have hr2 := run_append_grow (P := P) w t ty e i z ht hi hz ⟨g, 0, none⟩ n cap xs hown0.1 holds a m c news hl hnews (by omega) (by omega) (growslice_fits (by omega) hbytes)
      rw [hr] at hr2
      obtain ⟨rfl, rfl⟩ := hr2
      exact World.ownsRow.alloc hown0 _
/-- 'append(p, step)' within a region that draws its order -/
theorem step_step {ops : Array Oper} {o : Oper} {ac : Act} {K : Act → World → Prop} {Q : Exit → Act → World → Prop} {F : Prop} (w : World) (hgd : o.guard = none) (s x : Operand)
    (ho : o.op = .call { callee := .builtin .append, args := #[s, x], argTypes := #[27, 27] })
    (base : Nat) (v : Value) (p : List Step) (t : Step) (W : World) (ho' : W = w.alloc (.cells #[.string (bs t.1), .int .i64 t.2] 33)) (hs : ac.eval s = v) (m : Nat) (hm : p.length = m) (hown : SOwn w base v p)
    (hx : ac.eval x = .slice (some ⟨w.heap.size, 0, none⟩) 1 1) (h63 : m + 1 ≤ 1000000) (hbase : base ≤ w.heap.size)
    (h : ∀ ao c w', SOwn w' base (.slice ao (m + 1) c) (p ++ [t]) → SOwn w' base v p → w.grownBy w' v.ownBlock → Moved v (.slice ao (m + 1) c) w.heap.size → K (ac.put o.dst (.slice ao (m + 1) c)) w') :
    if Region.wanted o (yielded ops ac.tmps) = true then Oper.wp Tryd.prog o ac W K Q else F := by
  subst ho'
  subst hm
  obtain ⟨i0, hi, hz0, hz1, hz2⟩ := info_parts Tryd.info_step
  have hw : Region.wanted o (yielded ops ac.tmps) = true := by simp [Region.wanted, hgd]
  rw [if_pos hw]
  have hown' : (w.alloc (.cells #[.string (bs t.1), .int .i64 t.2] 33)).ownsRow base 33 2 v p.length (stepCells p) := World.ownsRow.alloc hown _
  obtain ⟨v', w', hr, ho2, hg, hm, hk⟩ := run_append_kept (P := Tryd.prog) (w.alloc (.cells #[.string (bs t.1), .int .i64 t.2] 33)) base 27 o.type 33 i0 (.agg #[.string ⟨#[]⟩, .int .i64 0]) 2 24 Tryd.underlying27 hi hz0 hz1 hz2 rfl (by decide) v p.length (stepCells p)
    hown' ⟨w.heap.size, 0, none⟩ 1 1 (step2 t) rfl
    (fun j u hj => by
      rw [Addr.add_lit]
      have := World.cell?_alloc_mark w #[.string (bs t.1), .int .i64 t.2] 33 (0, 0) (0 + j)
      rw [this]; simpa [step2] using hj)
    (fun u hu => by simp [step2] at hu; rcases hu with rfl | rfl <;> rfl) (by omega) (by unfold maxLen; omega) (by simp; omega)
  have hg' := grown_alloc' (.cells #[.string (bs t.1), .int .i64 t.2] 33) hg
  have hm' : Moved v v' w.heap.size := by
    rcases hm with hm | ⟨g, hm, hgl⟩
    · exact .inl hm
    · exact .inr ⟨g, hm, by simp at hgl; omega⟩
  obtain ⟨ao, c, rfl⟩ := own_form ho2
  unfold Oper.wp execOp
  simp only [ho, resolve, invoke, builtin, Sem.run_bind, Sem.run_pure, Result.andThen_ok, List.map_toArray, List.map_cons, List.map_nil, hs, hx, hr]
  refine h ao c w' ?_ hk hg' hm'
  unfold SOwn
  rw [List.length_append, stepCells_snoc]
  exact ho2
/-- more blocks to keep clear of: they are new -/
theorem OT.extend {W W' : World} {O : Nat} {X Y : Nat → Prop} {ps : List (List Step)} {vo : Value} {rows : List Value} (h : OT W O X ps vo rows) (h' : OT W' O X ps vo rows) (hy : ∀ b, Y b → X b ∨ W.heap.size ≤ b) : OT W' O Y ps vo rows :=
  ⟨h'.cell, h'.own, fun j p hj => by
    obtain ⟨ad, cap, h1, h2, h3⟩ := h.at_ j p hj
    obtain ⟨ad', cap', h1', h2', h3'⟩ := h'.at_ j p hj
    rw [h1] at h1'
    cases h1'
    refine ⟨ad, cap, h1, h2', fun a ha hp => ⟨(h3 a ha hp).1, (h3 a ha hp).2.1, fun hb => ?_⟩⟩
    rcases hy _ hb with hx | hx
    · exact (h3 a ha hp).2.2 hx
    · have := (h2.at_ a ha hp).2.1; omega, fun b hb hx => by
    rcases hy b hx with hx | hx
    · exact h.nx b hb hx
    · have := (h.own.lt b hb).2; omega⟩
end Go.Proofs.YtpjigecmnefnhaaDoor
