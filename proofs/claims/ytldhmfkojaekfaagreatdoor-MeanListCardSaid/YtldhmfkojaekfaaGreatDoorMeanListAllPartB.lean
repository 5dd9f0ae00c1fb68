/-
  Plain law: documents by their solid tokens: what the reader makes of them means so, and the other way round. No conditions but those that are named.
  Plain law: a text's tokens lie within it; a mark is one byte. What a document means, and what goes wrong. No conditions.
  Numbers of 64 bits, turned over. No conditions.
  The contracts of cmp.Compare, cmp.Or, rank. No conditions.
  The contracts of slices.CompareFunc over values and over entries. No conditions.
  The contract of slices.CompareFunc over entries. No conditions.
-/
import Derived.Laws.BitsAllLaws
import Derived.Deep.DeepCutAuto
import Derived.Deep.CutBlock
import Derived.Deep.DeepFit
import Derived.Outline
import Derived.WalkLawsBesides
import Derived.StillTailTactics
import Derived.Deep.RegionHeld3
import Derived.Test.YtldhmfkojaekfaaGreatDoorMeanListAllPartA
set_option linter.unusedVariables false
set_option linter.unusedSimpArgs false
namespace Go.Proofs.YtldhmfkojaekfaaGreatDoor
open Go.RowKit Gx
theorem kbX_end {X : TS} {i : Nat} (h : X.T.length ≤ i) : kbX X i = [] := by unfold kbX; rw [List.drop_of_length_le h]; rfl
theorem kbX_cons {X : TS} {i : Nat} (h : i < X.T.length) : kbX X i = (if solidK (X.kind i) = true then [(X.kind i, X.bytes i)] else []) ++ kbX X (i + 1) := by
  have hk : X.kind i = (X.T[i]).1 := by unfold TS.kind; rw [List.getElem?_eq_getElem h]
  have hp : X.pos i = (X.T[i]).2.1 := by unfold TS.pos; rw [List.getElem?_eq_getElem h]
  have he : X.end_ i = (X.T[i]).2.2 := by unfold TS.end_; rw [List.getElem?_eq_getElem h]
  unfold kbX
  rw [List.drop_eq_getElem_cons h, List.filter_cons, hk]
  unfold TS.bytes
  rw [hp, he]
  cases hs : solidK (X.T[i]).1 with
  | false => simp only [Bool.false_eq_true, if_false, List.nil_append]
  | true => simp only [if_true, List.map_cons, List.cons_append, List.nil_append]
theorem skipN_kb (X : TS) : ∀ (n i : Nat), X.T.length ≤ i + n → (X.T.length ≤ i + skipN (X.T.drop i) ∧ kbX X i = []) ∨ (i + skipN (X.T.drop i) < X.T.length ∧ solidK (X.kind (i + skipN (X.T.drop i))) = true ∧
    kbX X i = (X.kind (i + skipN (X.T.drop i)), X.bytes (i + skipN (X.T.drop i))) :: kbX X (i + skipN (X.T.drop i) + 1))
  | 0, i, h => .inl ⟨by omega, kbX_end (by omega)⟩
  | n + 1, i, h => by
    rcases Nat.lt_or_ge i X.T.length with hi | hi
    · have hk : X.kind i = (X.T[i]).1 := by unfold TS.kind; rw [List.getElem?_eq_getElem hi]
      have hc := kbX_cons hi
      rw [List.drop_eq_getElem_cons hi]
      unfold skipN
      cases hs : solidK (X.T[i]).1 with
      | true =>
        rw [hk, hs, if_pos rfl, ← hk] at hc
        simp only [if_true, Nat.add_zero]
        exact .inr ⟨hi, by rw [hk]; exact hs, hc⟩
      | false =>
        rw [hk, hs] at hc
        simp only [Bool.false_eq_true, if_false, List.nil_append] at hc ⊢
        rw [hc]
        have ih := skipN_kb X n (i + 1) (by omega)
        rw [show i + 1 + skipN (X.T.drop (i + 1)) = i + (skipN (X.T.drop (i + 1)) + 1) by omega] at ih
        exact ih
    · exact .inl ⟨by omega, kbX_end hi⟩
theorem skip_kb (X : TS) (s : PS) : (X.T.length ≤ (s.skip X).i ∧ kbX X s.i = []) ∨ ((s.skip X).i < X.T.length ∧ solidK (X.kind (s.skip X).i) = true ∧ kbX X s.i = (X.kind (s.skip X).i, X.bytes (s.skip X).i) :: kbX X ((s.skip X).i + 1)) :=
  skipN_kb X X.T.length s.i (Nat.le_add_left _ _)
/-- from behind what is not solid it is the same -/
theorem kb_skip (X : TS) (s : PS) : kbX X (s.skip X).i = kbX X s.i := by
  rcases skip_kb X s with ⟨h1, h2⟩ | ⟨h1, h2, h3⟩
  · rw [h2, kbX_end h1]
  · rw [h3, kbX_cons h1, h2]; rfl
theorem markKb {X : TS} (hM : MarkOk X) {s : PS} {c : UInt8} {r : List Kb} (h : kbX X s.i = (6, [c]) :: r) : (s.skip X).mark X = c ∧ (s.skip X).i < X.T.length ∧ kbX X ((s.skip X).i + 1) = r := by
  rcases skip_kb X s with ⟨h1, h2⟩ | ⟨h1, h2, h3⟩
  · rw [h2] at h; cases h
  · rw [h3] at h
    obtain ⟨e1, e2⟩ := List.cons.inj h
    obtain ⟨e3, e4⟩ := Prod.mk.inj e1
    have := hM _ h1 e3
    rw [e4] at this
    refine ⟨?_, h1, e2⟩
    unfold PS.mark
    rw [if_pos e3]
    exact (List.cons.inj this).1.symm
theorem of_mark {X : TS} (hM : MarkOk X) {s : PS} {c : UInt8} (hc : c ≠ 0) (h : (s.skip X).mark X = c) : kbX X s.i = (6, [c]) :: kbX X ((s.skip X).i + 1) := by
  have hl := mark_lt h hc
  have hk := mark_kind h hc
  rcases skip_kb X s with ⟨h1, h2⟩ | ⟨h1, h2, h3⟩
  · omega
  · rw [h3, hM _ hl hk, hk]
    unfold PS.mark at h
    rw [if_pos hk] at h
    rw [h]
theorem not_mark {X : TS} (hM : MarkOk X) {s : PS} {c : UInt8} (hc : c ≠ 0) (h : (kbX X s.i).head? ≠ some (6, [c])) : (s.skip X).mark X ≠ c := fun e => h (by rw [of_mark hM hc e]; rfl)

theorem G_head {d : Nat} {ts r : List Kb} {v : V} (h : G d ts v r) (e : UInt8) (he : e = 93 ∨ e = 125) : ts.head? ≠ some (6, [e]) := by
  cases d with
  | zero => exact h.elim
  | succ d =>
    rcases h with ⟨t, rfl, h1, -⟩ | ⟨ts', l, rfl, -⟩ | ⟨ts', l, rfl, -⟩
    · intro h2
      have := Option.some.inj h2
      rw [this] at h1
      exact absurd h1 (by simp)
    · intro h2
      have := (List.cons.inj (Prod.mk.inj (Option.some.inj h2)).2).1
      rcases he with rfl | rfl <;> exact absurd this (by decide)
    · intro h2
      have := (List.cons.inj (Prod.mk.inj (Option.some.inj h2)).2).1
      rcases he with rfl | rfl <;> exact absurd this (by decide)
theorem EntK_head {K : List Kb → V → List Kb → Prop} {ts r : List Kb} {a : ByteArray × V} (h : EntK K ts a r) (e : UInt8) : ts.head? ≠ some (6, [e]) := by
  obtain ⟨t, c, ts', rfl, h1, -⟩ := h
  intro h2
  have := Option.some.inj h2
  rw [this] at h1
  exact absurd h1 (by simp)
theorem items_run {α : Type} {X : TS} (hM : MarkOk X) {K : List Kb → α → List Kb → Prop} {kid : PS → PS × Nd} {Mn : Nd → α → Prop} {e : UInt8} (he : e = 93 ∨ e = 125) (hhd : ∀ ts a r, K ts a r → ts.head? ≠ some (6, [e]))
    (hK : ∀ ts a r (s : PS), K ts a r → s.bad = 0 → s.i ≤ X.T.length → kbX X s.i = ts → (kid s).1.bad = 0 ∧ kbX X (kid s).1.i = r ∧ (kid s).1.i ≤ X.T.length ∧ s.i < (kid s).1.i ∧ Mn (kid s).2 a) :
    ∀ ts l r, Items K e ts l r → ∀ (s : PS) (ks : List Nd) (f : Nat), s.bad = 0 → s.i ≤ X.T.length → kbX X s.i = ts → X.T.length + 2 ≤ f + s.i →
      ∃ new, (manyS X kid e f s ks).2 = ks ++ new ∧ (manyS X kid e f s ks).1.bad = 0 ∧ (manyS X kid e f s ks).1.i < X.T.length ∧ s.i ≤ (manyS X kid e f s ks).1.i ∧ kbX X ((manyS X kid e f s ks).1.i + 1) = r ∧ All2 Mn new l := by
  have he0 : e ≠ 0 := by rcases he with rfl | rfl <;> decide
  have he44 : e ≠ 44 := by rcases he with rfl | rfl <;> decide
  have hend : ∀ (r : List Kb) (s : PS) (ks : List Nd) (f : Nat), 1 ≤ f → s.bad = 0 → kbX X s.i = (6, [e]) :: r → manyS X kid e f s ks = (s.skip X, ks) ∧ (s.skip X).i < X.T.length ∧ s.i ≤ (s.skip X).i ∧ kbX X ((s.skip X).i + 1) = r := by
    intro r s ks f hf hb h
    obtain ⟨h1, h2, h3⟩ := markKb hM h
    exact ⟨manyS_end hf (.inl h1), h2, (skip_fine X s).1, h3⟩
  intro ts l r h
  induction h with
  | nil r =>
    intro s ks f hb hi hk hf
    obtain ⟨h1, h2, h3, h4⟩ := hend r s ks f (by omega) hb hk
    rw [h1]
    exact ⟨[], by simp, hb, h2, h3, h4, .nil⟩
  | last ts a r h =>
    intro s ks f hb hi hk hf
    have hn : ¬ ((s.skip X).mark X = e ∨ s.bad ≠ 0) := fun g => g.elim (not_mark hM he0 (by rw [hk]; exact hhd _ _ _ h)) (fun g => g hb)
    have hi2 := (skip_fine X s).2.1 hi
    have hlo := (skip_fine X s).1
    obtain ⟨k1, k2, k3, k4, k5⟩ := hK ts a _ (s.skip X) h hb hi2 ((kb_skip X s).trans hk)
    obtain ⟨m1, m2, m3⟩ := markKb hM k2
    have hro : roundS X e ((kid (s.skip X)).1.skip X) = (kid (s.skip X)).1.skip X := by
      unfold roundS
      rw [if_neg (by rw [m1]; exact he44), if_pos m1]
    rw [manyS_go (by omega) hn, hro]
    have hlo2 := (skip_fine X (kid (s.skip X)).1).1
    have hk2 : kbX X ((kid (s.skip X)).1.skip X).i = (6, [e]) :: r := (kb_skip X _).trans k2
    obtain ⟨h1, h2, h3, h4⟩ := hend r ((kid (s.skip X)).1.skip X) (ks ++ [(kid (s.skip X)).2]) (f - 1) (by omega) k1 hk2
    rw [h1]
    exact ⟨[(kid (s.skip X)).2], rfl, k1, h2, by show s.i ≤ (((kid (s.skip X)).1.skip X).skip X).i; omega, h4, .cons _ _ _ _ k5 .nil⟩
  | more ts a ts' l r h hl ih =>
    intro s ks f hb hi hk hf
    have hn : ¬ ((s.skip X).mark X = e ∨ s.bad ≠ 0) := fun g => g.elim (not_mark hM he0 (by rw [hk]; exact hhd _ _ _ h)) (fun g => g hb)
    have hi2 := (skip_fine X s).2.1 hi
    have hlo := (skip_fine X s).1
    obtain ⟨k1, k2, k3, k4, k5⟩ := hK ts a _ (s.skip X) h hb hi2 ((kb_skip X s).trans hk)
    obtain ⟨m1, m2, m3⟩ := markKb hM k2
    have hro : roundS X e ((kid (s.skip X)).1.skip X) = ((kid (s.skip X)).1.skip X).inc := by
      unfold roundS
      rw [if_pos m1]
    have hlo2 := (skip_fine X (kid (s.skip X)).1).1
    rw [manyS_go (by omega) hn, hro]
    have hinc : ((kid (s.skip X)).1.skip X).inc.i = ((kid (s.skip X)).1.skip X).i + 1 := rfl
    obtain ⟨new, g1, g2, g3, g4, g5, g6⟩ := ih ((kid (s.skip X)).1.skip X).inc (ks ++ [(kid (s.skip X)).2]) (f - 1) k1 (by omega) (by rw [hinc]; exact m3) (by omega)
    exact ⟨(kid (s.skip X)).2 :: new, by rw [g1]; simp, g2, g3, by omega, g5, .cons _ _ _ _ k5 g6⟩
theorem list_mean {f : Nd → Except Flt V} : ∀ {new : List Nd} {l acc : List V}, All2 (fun n v => f n = .ok v) new l → listN f acc new = .ok (acc ++ l)
  | _, _, acc, .nil => by rw [List.append_nil]; rfl
  | _, _, acc, .cons a b l m h hl => by
    rw [listN, h]
    show listN f (acc ++ [b]) l = _
    rw [list_mean hl]; simp
theorem table_mean {X : TS} {f : Nd → Except Flt V} : ∀ {new : List Nd} {l acc : List (ByteArray × V)} {ks : List ByteArray}, All2 (EntN X f) new l → (∀ k, k ∈ acc.map Prod.fst ↔ k ∈ ks) → Once ks l → tableN X f acc new = .ok (putAll acc l)
  | _, _, acc, ks, .nil, _, _ => rfl
  | _, _, acc, ks, .cons n a l m h hl, hks, ho => by
    have hnot : ¬ fidx a.1 acc < acc.length := by rw [fidx_lt, hks]; exact ho.1
    have hkey : keyN X (n.kids.getD 0 Nd.none).a acc = .ok a.1 := by
      unfold keyN
      rw [h.1]
      simp only []
      rw [if_neg hnot]
    rw [tableN, hkey]
    simp only []
    rw [h.2]
    simp only []
    exact table_mean hl (fun k => by rw [put_keys, hks, List.mem_cons]) ho.2
theorem leaf_run {X : TS} {k : Int} {s : PS} {t : Kb} {r : List Kb} (h : kbX X s.i = t :: r) (ht : t.1 = 4 ∨ t.1 = 5) : leafS X k s = ((s.skip X).inc, .mk k (s.skip X).i ((s.skip X).i + 1) []) ∧ kbX X ((s.skip X).i + 1) = r ∧ (s.skip X).i < X.T.length ∧ X.kind (s.skip X).i = t.1 ∧ X.bytes (s.skip X).i = t.2 := by
  rcases skip_kb X s with ⟨h1, h2⟩ | ⟨h1, h2, h3⟩
  · rw [h2] at h; cases h
  · rw [h3] at h
    obtain ⟨e1, e2⟩ := List.cons.inj h
    have ek : X.kind (s.skip X).i = t.1 := by rw [← e1]
    have eb : X.bytes (s.skip X).i = t.2 := by rw [← e1]
    refine ⟨?_, e2, h1, ek, eb⟩
    unfold leafS
    rw [if_pos]
    rw [ek]
    unfold isLeaf
    rcases ht with h | h <;> rw [h] <;> rfl
theorem mark_none {X : TS} {s : PS} (h : X.kind s.i ≠ 6) : s.mark X = 0 := by unfold PS.mark; rw [if_neg h]
theorem entry_run {X : TS} (hM : MarkOk X) {K : List Kb → V → List Kb → Prop} {val : PS → PS × Nd} {f : Nd → Except Flt V}
    (hK : ∀ ts a r (s : PS), K ts a r → s.bad = 0 → s.i ≤ X.T.length → kbX X s.i = ts → (val s).1.bad = 0 ∧ kbX X (val s).1.i = r ∧ (val s).1.i ≤ X.T.length ∧ s.i < (val s).1.i ∧ f (val s).2 = .ok a)
    (ts : List Kb) (a : ByteArray × V) (r : List Kb) (s : PS) (h : EntK K ts a r) (hb : s.bad = 0) (hi : s.i ≤ X.T.length) (hk : kbX X s.i = ts) :
    (entryS X val s).1.bad = 0 ∧ kbX X (entryS X val s).1.i = r ∧ (entryS X val s).1.i ≤ X.T.length ∧ s.i < (entryS X val s).1.i ∧ EntN X f (entryS X val s).2 a := by
  obtain ⟨t, c, ts', rfl, h1, h2, h3, h4⟩ := h
  obtain ⟨l1, l2, l3, l4, l5⟩ := leaf_run (k := 2) hk h1
  have l2' : kbX X (s.skip X).inc.i = (6, [c]) :: ts' := l2
  obtain ⟨m1, m2, m3⟩ := markKb hM l2'
  have hlo := (skip_fine X s).1
  have hlo2 := (skip_fine X (s.skip X).inc).1
  have hinc : (s.skip X).inc.i = (s.skip X).i + 1 := rfl
  have hcol : colonS X ((leafS X 2 s).1.skip X) = (s.skip X).inc.skip X := by
    rw [l1]
    unfold colonS
    rw [if_neg]
    rintro ⟨-, g1, g2⟩
    simp only [m1] at g1 g2
    rcases h2 with rfl | rfl
    · exact g1 rfl
    · exact g2 rfl
  have hent : entryS X val s = ((val ((s.skip X).inc.skip X).inc).1, .mk 4 (leafS X 2 s).2.a (val ((s.skip X).inc.skip X).inc).2.b [(leafS X 2 s).2, (val ((s.skip X).inc.skip X).inc).2]) := by
    unfold entryS
    rw [hcol, if_neg (fun g => g hb)]
  have hinc2 : ((s.skip X).inc.skip X).inc.i = ((s.skip X).inc.skip X).i + 1 := rfl
  obtain ⟨k1, k2, k3, k4, k5⟩ := hK ts' a.2 r ((s.skip X).inc.skip X).inc h4 hb (by omega) m3
  rw [hent]
  refine ⟨k1, k2, k3, by simp only []; omega, ?_, k5⟩
  show keyOf (X.kind (leafS X 2 s).2.a) (X.bytes (leafS X 2 s).2.a) = some a.1
  rw [l1]
  show keyOf (X.kind (s.skip X).i) (X.bytes (s.skip X).i) = some a.1
  rw [l4, l5]
  exact h3
theorem G_run {X : TS} (hM : MarkOk X) (hF : X.T.length + 2 ≤ X.F) : ∀ (d : Nat) (ts : List Kb) (v : V) (r : List Kb) (s : PS), G d ts v r → s.bad = 0 → s.i ≤ X.T.length → kbX X s.i = ts →
    (valueS X d s).1.bad = 0 ∧ kbX X (valueS X d s).1.i = r ∧ (valueS X d s).1.i ≤ X.T.length ∧ s.i < (valueS X d s).1.i ∧ meanN X (d + 1) (valueS X d s).2 = .ok v
  | 0, ts, v, r, s, h, _, _, _ => h.elim
  | d + 1, ts, v, r, s, h, hb, hi, hk => by
    have hlo := (skip_fine X s).1
    rcases h with ⟨t, rfl, h1, h2⟩ | ⟨ts', l, rfl, h1, rfl⟩ | ⟨ts', l, rfl, h1, h2, rfl⟩
    · obtain ⟨l1, l2, l3, l4, l5⟩ := leaf_run (k := 1) hk h1
      have k6 : X.kind (s.skip X).i ≠ 6 := by rw [l4]; omega
      have hss := skip_skip X s
      have l6 : leafS X 1 (s.skip X) = ((s.skip X).inc, .mk 1 (s.skip X).i ((s.skip X).i + 1) []) := by
        have := leaf_run (X := X) (k := 1) (s := s.skip X) (t := t) (r := r) ((kb_skip X s).trans hk) h1
        rw [hss] at this
        exact this.1
      have e : valueS X (d + 1) s = leafS X 1 (s.skip X) := by
        rw [valueS, if_neg (by rw [mark_none k6]; decide), if_neg (by rw [mark_none k6]; decide)]
      rw [e, l6]
      refine ⟨hb, l2, l3, by show s.i < (s.skip X).i + 1; omega, ?_⟩
      unfold meanN
      rw [if_neg (show ¬ (Nd.mk 1 (s.skip X).i ((s.skip X).i + 1) []).k = 5 by show ¬ (1 : Int) = 5; decide), if_neg (show ¬ (Nd.mk 1 (s.skip X).i ((s.skip X).i + 1) []).k = 3 by show ¬ (1 : Int) = 3; decide)]
      unfold leafN
      show (match leafOf (X.kind (s.skip X).i) (X.bytes (s.skip X).i) with | some v => Except.ok v | none => .error (X.pos (s.skip X).i, false)) = _
      rw [l4, l5, h2]
    · obtain ⟨m1, m2, m3⟩ := markKb hM hk
      have e : valueS X (d + 1) s = manyN X 5 93 (valueS X d) (s.skip X) := by
        rw [valueS, if_neg (by rw [m1]; decide), if_pos m1]
      have hinc : (s.skip X).inc.i = (s.skip X).i + 1 := rfl
      obtain ⟨new, g1, g2, g3, g4, g5, g6⟩ := items_run (kid := valueS X d) (Mn := fun n v => meanN X (d + 1) n = .ok v) hM (.inl rfl) (fun ts a r h => G_head h 93 (.inl rfl)) (fun ts a r s h hb hi hk => G_run hM hF d ts a r s h hb hi hk) ts' l r h1 (s.skip X).inc [] X.F hb (by omega) m3 (by omega)
      rw [e]
      unfold manyN
      rw [g1, List.nil_append]
      refine ⟨g2, g5, g3, by show s.i < _ + 1; omega, ?_⟩
      rw [meanN]
      rw [if_pos (show (Nd.mk 5 (s.skip X).i ((manyS X (valueS X d) 93 X.F (s.skip X).inc []).1.i + 1) new).k = 5 from rfl)]
      show (match listN (meanN X (d + 1)) [] new with | .ok l => Except.ok (listV l) | .error e => .error e) = _
      rw [list_mean g6]; rfl
    · obtain ⟨m1, m2, m3⟩ := markKb hM hk
      have e : valueS X (d + 1) s = manyN X 3 125 (entryS X (valueS X d)) (s.skip X) := by
        rw [valueS, if_pos m1]
      have hinc : (s.skip X).inc.i = (s.skip X).i + 1 := rfl
      obtain ⟨new, g1, g2, g3, g4, g5, g6⟩ := items_run (kid := entryS X (valueS X d)) (Mn := EntN X (meanN X (d + 1))) hM (.inr rfl) (fun ts a r h => EntK_head h 125) (fun ts a r s h hb hi hk => entry_run hM (fun ts a r s h hb hi hk => G_run hM hF d ts a r s h hb hi hk) ts a r s h hb hi hk) ts' l r h1 (s.skip X).inc [] X.F hb (by omega) m3 (by omega)
      rw [e]
      unfold manyN
      rw [g1, List.nil_append]
      refine ⟨g2, g5, g3, by show s.i < _ + 1; omega, ?_⟩
      rw [meanN]
      rw [if_neg (show ¬ (Nd.mk 3 (s.skip X).i ((manyS X (entryS X (valueS X d)) 125 X.F (s.skip X).inc []).1.i + 1) new).k = 5 by show ¬ (3 : Int) = 5; decide), if_pos (show (Nd.mk 3 (s.skip X).i ((manyS X (entryS X (valueS X d)) 125 X.F (s.skip X).inc []).1.i + 1) new).k = 3 from rfl)]
      show (match tableN X (meanN X (d + 1)) [] new with | .ok l => Except.ok (tableV l) | .error e => .error e) = _
      rw [table_mean g6 (ks := []) (fun k => by simp) h2]

theorem list_back {f : Nd → Except Flt V} : ∀ {new : List Nd} {acc L : List V}, listN f acc new = .ok L → ∃ l, L = acc ++ l ∧ All2 (fun n v => f n = .ok v) new l
  | [], acc, L, h => ⟨[], by rw [List.append_nil]; exact (Except.ok.inj h).symm, .nil⟩
  | n :: new, acc, L, h => by
    rw [listN] at h
    cases hf : f n with
    | error e => rw [hf] at h; cases h
    | ok v =>
      rw [hf] at h
      obtain ⟨l, h1, h2⟩ := list_back (acc := acc ++ [v]) h
      exact ⟨v :: l, by rw [h1]; simp, .cons _ _ _ _ hf h2⟩
theorem table_back {X : TS} {f : Nd → Except Flt V} : ∀ {new : List Nd} {acc L : List (ByteArray × V)} {ks : List ByteArray}, (∀ k, k ∈ acc.map Prod.fst ↔ k ∈ ks) → tableN X f acc new = .ok L → ∃ l, L = putAll acc l ∧ All2 (EntN X f) new l ∧ Once ks l
  | [], acc, L, ks, _, h => ⟨[], (Except.ok.inj h).symm, .nil, trivial⟩
  | n :: new, acc, L, ks, hks, h => by
    rw [tableN] at h
    cases hk : keyN X (n.kids.getD 0 Nd.none).a acc with
    | error e => rw [hk] at h; cases h
    | ok s =>
      rw [hk] at h
      simp only [] at h
      cases hf : f (n.kids.getD 1 Nd.none) with
      | error e => rw [hf] at h; cases h
      | ok v =>
        rw [hf] at h
        simp only [] at h
        unfold keyN at hk
        cases hko : keyOf (X.kind (n.kids.getD 0 Nd.none).a) (X.bytes (n.kids.getD 0 Nd.none).a) with
        | none => rw [hko] at hk; cases hk
        | some s' =>
          rw [hko] at hk
          simp only [] at hk
          by_cases hx : fidx s' acc < acc.length
          · rw [if_pos hx] at hk; cases hk
          rw [if_neg hx] at hk
          obtain rfl : s' = s := Except.ok.inj hk
          obtain ⟨l, h1, h2, h3⟩ := table_back (acc := putL acc s' v) (ks := s' :: ks) (fun k => by rw [put_keys, hks, List.mem_cons]) h
          refine ⟨(s', v) :: l, h1, .cons _ _ _ _ ⟨hko, hf⟩ h2, ?_, h3⟩
          rw [fidx_lt, hks] at hx
          exact hx
theorem all2_inv {α β : Type} {R : α → β → Prop} {a : α} {l : List α} {m : List β} (h : All2 R (a :: l) m) : ∃ b m', m = b :: m' ∧ R a b ∧ All2 R l m' := by
  cases h with
  | cons _ b _ m' h hl => exact ⟨b, m', rfl, h, hl⟩
theorem all2_nil {α β : Type} {R : α → β → Prop} {m : List β} (h : All2 R [] m) : m = [] := by cases h; rfl
theorem run_items {α : Type} {X : TS} (hM : MarkOk X) {K : List Kb → α → List Kb → Prop} {kid : PS → PS × Nd} {Mn : Nd → α → Prop} {e : UInt8} (he : e = 93 ∨ e = 125) (hs : Stays fun s => (kid s).1)
    (hK : ∀ (s : PS) (a : α), s.i ≤ X.T.length → (kid s).1.bad = 0 → Mn (kid s).2 a → K (kbX X s.i) a (kbX X (kid s).1.i)) (hle : ∀ s : PS, s.i ≤ X.T.length → (kid s).1.bad = 0 → (kid s).1.i ≤ X.T.length) :
    ∀ (f : Nat) (s : PS) (ks : List Nd), (manyS X kid e f s ks).1.bad = 0 → s.i ≤ X.T.length → ∃ new, (manyS X kid e f s ks).2 = ks ++ new ∧ ∀ l, All2 Mn new l → Items K e (kbX X s.i) l (kbX X ((manyS X kid e f s ks).1.i + 1))
  | 0, s, ks, hb, hi => (fail_not (X := X) (e := 4) (by decide) hb).elim
  | f + 1, s, ks, hb, hi => by
    have he0 : e ≠ 0 := by rcases he with rfl | rfl <;> decide
    have hs0 : s.bad = 0 := good_of (f := fun u => (manyS X kid e (f + 1) u ks).1) (fun u hu => many_stays X kid e (f + 1) u ks hu) hb
    by_cases hm : (s.skip X).mark X = e
    · have e1 : manyS X kid e (f + 1) s ks = (s.skip X, ks) := by rw [manyS, if_pos (.inl hm)]
      rw [e1]
      refine ⟨[], by simp, fun l hl => ?_⟩
      rw [all2_nil hl, of_mark hM he0 hm]
      exact .nil _
    · have hn : ¬ ((s.skip X).mark X = e ∨ s.bad ≠ 0) := fun h => h.elim hm (fun h => h hs0)
      have hgo := manyS_go (kid := kid) (ks := ks) (Nat.succ_le_succ (Nat.zero_le f)) hn
      rw [hgo] at hb ⊢
      rw [show f + 1 - 1 = f from rfl] at hb ⊢
      have hr0 : (roundS X e ((kid (s.skip X)).1.skip X)).bad = 0 := good_of (f := fun u => (manyS X kid e f u (ks ++ [(kid (s.skip X)).2])).1) (fun u hu => many_stays X kid e f u _ hu) hb
      have hkb : (kid (s.skip X)).1.bad = 0 := by
        unfold roundS at hr0
        split at hr0
        · exact hr0
        · split at hr0
          · exact hr0
          · exact (fail_not (by decide) hr0).elim
      have hi2 := (skip_fine X s).2.1 hi
      have hkl := hle _ hi2 hkb
      by_cases h44 : ((kid (s.skip X)).1.skip X).mark X = 44
      · have hro : roundS X e ((kid (s.skip X)).1.skip X) = ((kid (s.skip X)).1.skip X).inc := by unfold roundS; rw [if_pos h44]
        rw [hro] at hb ⊢
        have h44l := mark_lt h44 (by decide)
        obtain ⟨new, h1, h2⟩ := run_items hM he hs hK hle f ((kid (s.skip X)).1.skip X).inc (ks ++ [(kid (s.skip X)).2]) hb h44l
        refine ⟨(kid (s.skip X)).2 :: new, by rw [h1]; simp, fun l hl => ?_⟩
        obtain ⟨a, m, rfl, ha, hm2⟩ := all2_inv hl
        have hka := hK (s.skip X) a hi2 hkb ha
        rw [kb_skip, of_mark hM (by decide) h44] at hka
        exact .more _ a _ m _ hka (h2 m hm2)
      · have h5 : ((kid (s.skip X)).1.skip X).mark X = e := by
          unfold roundS at hr0
          rw [if_neg h44] at hr0
          split at hr0
          · rename_i h5; exact h5
          · exact (fail_not (by decide) hr0).elim
        have hro : roundS X e ((kid (s.skip X)).1.skip X) = (kid (s.skip X)).1.skip X := by unfold roundS; rw [if_neg h44, if_pos h5]
        rw [hro] at hb ⊢
        have h5l := mark_lt h5 he0
        have hss := skip_skip X (kid (s.skip X)).1
        have hend : ∀ g, manyS X kid e (g + 1) ((kid (s.skip X)).1.skip X) (ks ++ [(kid (s.skip X)).2]) = ((kid (s.skip X)).1.skip X, ks ++ [(kid (s.skip X)).2]) := fun g => by
          rw [manyS, if_pos (.inl (by rw [hss]; exact h5)), hss]
        cases f with
        | zero => exact (fail_not (X := X) (e := 4) (by decide) hb).elim
        | succ g =>
          rw [hend g]
          refine ⟨[(kid (s.skip X)).2], rfl, fun l hl => ?_⟩
          obtain ⟨a, m, rfl, ha, hm2⟩ := all2_inv hl
          rw [all2_nil hm2]
          have hka := hK (s.skip X) a hi2 hkb ha
          rw [kb_skip, of_mark hM he0 h5] at hka
          exact .last _ a _ hka
theorem leafS_kb {X : TS} {k : Int} {s : PS} (hb : (leafS X k s).1.bad = 0) : (leafS X k s).1.i = (s.skip X).i + 1 ∧ ∃ t : Kb, (t.1 = 4 ∨ t.1 = 5) ∧ t.1 = X.kind (s.skip X).i ∧ t.2 = X.bytes (s.skip X).i ∧ kbX X s.i = t :: kbX X ((s.skip X).i + 1) := by
  have hl := (leaf_row hb).2
  unfold leafS at hb ⊢
  split at hb
  · rename_i h3
    rw [if_pos h3]
    refine ⟨rfl, (X.kind (s.skip X).i, X.bytes (s.skip X).i), ?_, rfl, rfl, ?_⟩
    · unfold isLeaf at h3
      simp only [Bool.or_eq_true, decide_eq_true_eq] at h3
      exact h3
    · rcases skip_kb X s with ⟨h1, -⟩ | ⟨-, -, h⟩
      · omega
      · exact h
  · exact (fail_not (by decide) hb).elim
theorem run_entry {X : TS} (hM : MarkOk X) {K : List Kb → V → List Kb → Prop} {val : PS → PS × Nd} {f : Nd → Except Flt V} (hK : ∀ (s : PS) (a : V), s.i ≤ X.T.length → (val s).1.bad = 0 → f (val s).2 = .ok a → K (kbX X s.i) a (kbX X (val s).1.i))
    (s : PS) (a : ByteArray × V) (hi : s.i ≤ X.T.length) (hb : (entryS X val s).1.bad = 0) (ha : EntN X f (entryS X val s).2 a) : EntK K (kbX X s.i) a (kbX X (entryS X val s).1.i) := by
  unfold entryS at hb ha ⊢
  split at hb
  · rename_i h1; exact absurd hb h1
  · rename_i h1
    rw [if_neg h1] at ha ⊢
    have hcb : (colonS X ((leafS X 2 s).1.skip X)).bad = 0 := by
      by_cases h0 : (colonS X ((leafS X 2 s).1.skip X)).bad = 0
      · exact h0
      · exact absurd h0 h1
    obtain ⟨c1, c2, c3, c4⟩ := colon_good hcb
    have hlf := leaf_row (k := 2) (s := s) c2
    obtain ⟨k1, t, k2, k3, k4, k5⟩ := leafS_kb (k := 2) (s := s) c2
    have hm : ((leafS X 2 s).1.skip X).mark X = 58 ∨ ((leafS X 2 s).1.skip X).mark X = 61 := by
      by_cases h58 : ((leafS X 2 s).1.skip X).mark X = 58
      · exact .inl h58
      · by_cases h61 : ((leafS X 2 s).1.skip X).mark X = 61
        · exact .inr h61
        · unfold colonS at hcb
          rw [if_pos ⟨c2, h58, h61⟩] at hcb
          exact (fail_not (by decide) hcb).elim
    rw [c1] at hb ha ⊢
    obtain ⟨a1, a2⟩ := ha
    have hv := hK ((leafS X 2 s).1.skip X).inc a.2 c4 hb a2
    have a1' : keyOf (X.kind (leafS X 2 s).2.a) (X.bytes (leafS X 2 s).2.a) = some a.1 := a1
    rw [hlf.1] at a1'
    have a1'' : keyOf (X.kind (s.skip X).i) (X.bytes (s.skip X).i) = some a.1 := a1'
    rw [← k3, ← k4] at a1''
    rw [← k1] at k5
    have hmk : ∀ c : UInt8, c ≠ 0 → ((leafS X 2 s).1.skip X).mark X = c → kbX X s.i = t :: (6, [c]) :: kbX X ((leafS X 2 s).1.skip X).inc.i := fun c hc h => by
      rw [k5, of_mark hM hc h]; rfl
    rcases hm with hm | hm
    · exact ⟨t, 58, _, hmk 58 (by decide) hm, k2, .inl rfl, a1'', hv⟩
    · exact ⟨t, 61, _, hmk 61 (by decide) hm, k2, .inr rfl, a1'', hv⟩
theorem run_G {X : TS} (hM : MarkOk X) : ∀ (d : Nat) (s : PS) (v : V), s.i ≤ X.T.length → (valueS X d s).1.bad = 0 → meanN X (d + 1) (valueS X d s).2 = .ok v → G d (kbX X s.i) v (kbX X (valueS X d s).1.i) := by
  have hleaf : ∀ (d e : Nat) (s : PS) (v : V), (leafS X 1 (s.skip X)).1.bad = 0 → meanN X (e + 1) (leafS X 1 (s.skip X)).2 = .ok v → G (d + 1) (kbX X s.i) v (kbX X (leafS X 1 (s.skip X)).1.i) := by
    intro d e s v hb hm
    have hlf := leaf_row hb
    obtain ⟨k1, t, k2, k3, k4, k5⟩ := leafS_kb hb
    rw [hlf.1] at hm
    unfold meanN at hm
    rw [if_neg (by show ¬ (1 : Int) = 5; decide), if_neg (by show ¬ (1 : Int) = 3; decide)] at hm
    have hm' : leafN X ((s.skip X).skip X).i = .ok v := hm
    unfold leafN at hm'
    rw [← k3, ← k4] at hm'
    refine .inl ⟨t, by rw [k1, ← k5, kb_skip], k2, ?_⟩
    cases hl : leafOf t.1 t.2 with
    | none => rw [hl] at hm'; cases hm'
    | some v' => rw [hl] at hm'; rw [Except.ok.inj hm']
  intro d
  induction d with
  | zero =>
    intro s v hi hb hm
    unfold valueS at hb hm ⊢
    split at hb
    · exact (fail_not (by decide) hb).elim
    · rename_i h
      exfalso
      have h4 := (leaf_row hb).2
      have h5 := (skip_fine X (s.skip X)).1
      have h6 := skip_skip X s
      unfold leafS at hb
      split at hb
      · rename_i h3
        rw [h6] at h3
        exact h (by unfold PS.begins; rw [h3]; simp)
      · exact fail_not (by decide) hb
  | succ d ih =>
    intro s v hi hb hm
    have hi2 := (skip_fine X s).2.1 hi
    unfold valueS at hb hm ⊢
    split at hb
    · rename_i h
      rw [if_pos h] at hm ⊢
      have hin := mark_lt h (by decide)
      unfold manyN at hb hm ⊢
      obtain ⟨new, h1, h2⟩ := run_items (K := EntK (G d)) (Mn := EntN X (meanN X (d + 1))) hM (.inr rfl) (entry_stays X (valueS X d)) (fun u a hu hub hua => run_entry hM (fun s a hs hb hm => ih s a hs hb hm) u a hu hub hua)
        (fun u hu hub => (entry_cov (value_cov X d) (value_stays X d) u hub hu).le) X.F (s.skip X).inc [] hb hin
      rw [List.nil_append] at h1
      rw [h1] at hm
      unfold meanN at hm
      rw [if_neg (by show ¬ (3 : Int) = 5; decide), if_pos (by rfl)] at hm
      have hm' : (match tableN X (meanN X (d + 1)) [] new with | .ok l => Except.ok (tableV l) | .error e => .error e) = Except.ok v := hm
      cases ht : tableN X (meanN X (d + 1)) [] new with
      | error e => rw [ht] at hm'; cases hm'
      | ok L =>
        rw [ht] at hm'
        obtain ⟨l, rfl, g1, g2⟩ := table_back (ks := []) (fun k => by simp) ht
        exact .inr (.inr ⟨kbX X (s.skip X).inc.i, l, of_mark hM (by decide) h, h2 l g1, g2, (Except.ok.inj hm').symm⟩)
    · rename_i h
      rw [if_neg h] at hm ⊢
      split at hb
      · rename_i h3
        rw [if_pos h3] at hm ⊢
        have hin := mark_lt h3 (by decide)
        unfold manyN at hb hm ⊢
        obtain ⟨new, h1, h2⟩ := run_items (K := G d) (Mn := fun n v => meanN X (d + 1) n = .ok v) hM (.inl rfl) (value_stays X d) (fun u a hu hub hua => ih u a hu hub hua)
          (fun u hu hub => (value_cov X d u hub hu).le) X.F (s.skip X).inc [] hb hin
        rw [List.nil_append] at h1
        rw [h1] at hm
        unfold meanN at hm
        rw [if_pos (by rfl)] at hm
        have hm' : (match listN (meanN X (d + 1)) [] new with | .ok l => Except.ok (listV l) | .error e => .error e) = Except.ok v := hm
        cases ht : listN (meanN X (d + 1)) [] new with
        | error e => rw [ht] at hm'; cases hm'
        | ok L =>
          rw [ht] at hm'
          obtain ⟨l, hL, g1⟩ := list_back ht
          exact .inr (.inl ⟨kbX X (s.skip X).inc.i, l, of_mark hM (by decide) h3, h2 l g1, by rw [← Except.ok.inj hm', hL]; rfl⟩)
      · rename_i h3
        rw [if_neg h3] at hm ⊢
        exact hleaf d (d + 1) s v hb hm
end Go.Proofs.YtldhmfkojaekfaaGreatDoor
namespace Go.Proofs.YtldhmfkojaekfaaGreatDoor
open Go.RowKit Gx
theorem treeX_mark (l : List UInt8) : MarkOk (treeX l) := fun k hk h6 => by
  obtain ⟨h1, h2, h3, h4⟩ := treeX_tok l k hk
  unfold TS.bytes
  rw [h4 h6]
  show (l.drop ((treeX l).pos k)).take _ = [l.getD ((treeX l).pos k) 0]
  rw [Nat.add_sub_cancel_left, List.drop_eq_getElem_cons h3, List.getD_eq_getElem?_getD, List.getElem?_eq_getElem h3]
  rfl
end Go.Proofs.YtldhmfkojaekfaaGreatDoor
namespace Go.Proofs.YtldhmfkojaekfaaGreatDoor
open Go.RowKit Gx
theorem xor_all (b : Nat) (h : b < 18446744073709551616) : 18446744073709551615 ^^^ b = 18446744073709551615 - b := by
  have h1 := congrArg BitVec.toNat (BitVec.allOnes_xor (x := BitVec.ofNat 64 b))
  rw [BitVec.toNat_xor, BitVec.toNat_not, BitVec.toNat_allOnes, BitVec.toNat_ofNat, Nat.mod_eq_of_lt (show b < 2 ^ 64 from h)] at h1
  exact h1
theorem ixor_all (f : Int) (h0 : 0 ≤ f) (h1 : f ≤ 18446744073709551615) : bits .xor .u64 IntKind.u64.max f = 18446744073709551615 - f := by
  obtain ⟨b, rfl⟩ : ∃ b : Nat, f = (b : Int) := ⟨f.toNat, by omega⟩
  have := u64_xor_nat 18446744073709551615 b (by omega) (by omega)
  rw [show ((18446744073709551615 : Nat) : Int) = IntKind.u64.max from rfl] at this
  rw [this, xor_all b (by omega)]
  show _ = (18446744073709551615 : Int) - _
  omega
end Go.Proofs.YtldhmfkojaekfaaGreatDoor
namespace Go.Proofs.YtldhmfkojaekfaaGreatDoor
open Go.RowKit Gx
set_option maxRecDepth 100000
/-- the bytes of a fraction's bits -/
def fbits (f : Int) : Int := if f < 9223372036854775808 then f + 9223372036854775808 else 18446744073709551615 - f
def sgn (x y : Int) : Int := if x < y then -1 else if y < x then 1 else 0
/-- texts, byte by byte -/
def sgnB (a b : ByteArray) : Int := if Op.bytesLess a.toList b.toList then -1 else if (Op.bytesLess a.toList b.toList || a.toList == b.toList) then 0 else 1
def CmpPost (c : Int) (w : World) (e : Ending) (w' : World) : Prop := e = .returned (.int .i64 c) ∧ w = w'
set_option maxHeartbeats 400000 in
theorem cmpInt_any (x y : Int) (w : World) : Calls Tryz.prog 36 #[.int .i64 x, .int .i64 y] w (CmpPost (sgn x y) w) := by
  by_cases h1 : x < y
  · have e : sgn x y = -1 := by unfold sgn; rw [if_pos h1]
    go_enter Tryz.func36, Tryz.ntmps36
    go_wp2
    go_ret
    exact ⟨by first | rfl | (rw [e]; rfl), rfl⟩
  by_cases h2 : y < x
  · have e : sgn x y = 1 := by unfold sgn; rw [if_neg h1, if_pos h2]
    go_enter Tryz.func36, Tryz.ntmps36
    go_wp2
    go_ret
    exact ⟨by first | rfl | (rw [e]; rfl), rfl⟩
  · have e : sgn x y = 0 := by unfold sgn; rw [if_neg h1, if_neg h2]
    go_enter Tryz.func36, Tryz.ntmps36
    go_wp2
    go_ret
    exact ⟨by first | rfl | (rw [e]; rfl), rfl⟩
set_option maxHeartbeats 400000 in
theorem cmpI64_any (x y : Int) (w : World) : Calls Tryz.prog 37 #[.int .i64 x, .int .i64 y] w (CmpPost (sgn x y) w) := by
  by_cases h1 : x < y
  · have e : sgn x y = -1 := by unfold sgn; rw [if_pos h1]
    go_enter Tryz.func37, Tryz.ntmps37
    go_wp2
    go_ret
    exact ⟨by first | rfl | (rw [e]; rfl), rfl⟩
  by_cases h2 : y < x
  · have e : sgn x y = 1 := by unfold sgn; rw [if_neg h1, if_pos h2]
    go_enter Tryz.func37, Tryz.ntmps37
    go_wp2
    go_ret
    exact ⟨by first | rfl | (rw [e]; rfl), rfl⟩
  · have e : sgn x y = 0 := by unfold sgn; rw [if_neg h1, if_neg h2]
    go_enter Tryz.func37, Tryz.ntmps37
    go_wp2
    go_ret
    exact ⟨by first | rfl | (rw [e]; rfl), rfl⟩
set_option maxHeartbeats 400000 in
theorem cmpU64_any (x y : Int) (w : World) : Calls Tryz.prog 38 #[.int .u64 x, .int .u64 y] w (CmpPost (sgn x y) w) := by
  by_cases h1 : x < y
  · have e : sgn x y = -1 := by unfold sgn; rw [if_pos h1]
    go_enter Tryz.func38, Tryz.ntmps38
    go_wp2
    go_ret
    exact ⟨by first | rfl | (rw [e]; rfl), rfl⟩
  by_cases h2 : y < x
  · have e : sgn x y = 1 := by unfold sgn; rw [if_neg h1, if_pos h2]
    go_enter Tryz.func38, Tryz.ntmps38
    go_wp2
    go_ret
    exact ⟨by first | rfl | (rw [e]; rfl), rfl⟩
  · have e : sgn x y = 0 := by unfold sgn; rw [if_neg h1, if_neg h2]
    go_enter Tryz.func38, Tryz.ntmps38
    go_wp2
    go_ret
    exact ⟨by first | rfl | (rw [e]; rfl), rfl⟩
set_option maxHeartbeats 1000000 in
theorem cmpStr_any (a b : ByteArray) (w : World) : Calls Tryz.prog 40 #[.string a, .string b] w (CmpPost (sgnB a b) w) := by
  obtain ⟨x, hx⟩ : ∃ x, Op.bytesLess a.toList b.toList = x := ⟨_, rfl⟩
  obtain ⟨y, hy⟩ : ∃ y, (a.toList == b.toList) = y := ⟨_, rfl⟩
  have e : sgnB a b = if x = true then -1 else if (x || y) = true then 0 else 1 := by unfold sgnB; rw [hx, hy]
  have E := Lib.hid e
  clear e
  cases x with
  | true =>
    go_enter Tryz.func40, Tryz.ntmps40
    go_wp2
    go_ret
    exact ⟨by rw [E.out]; rfl, rfl⟩
  | false =>
    cases y with
    | true =>
      go_enter Tryz.func40, Tryz.ntmps40
      go_wp2
      go_ret
      exact ⟨by rw [E.out]; rfl, rfl⟩
    | false =>
      go_enter Tryz.func40, Tryz.ntmps40
      go_wp2
      go_ret
      exact ⟨by rw [E.out]; rfl, rfl⟩
def RankPost (n : Int) (w : World) (e : Ending) (w' : World) : Prop := e = .returned (.int .u64 n) ∧ w = w'
theorem ior_top (f : Int) (h0 : 0 ≤ f) (h1 : f < 9223372036854775808) : bits .or .u64 f 9223372036854775808 = f + 9223372036854775808 := by
  obtain ⟨b, rfl⟩ : ∃ b : Nat, f = (b : Int) := ⟨f.toNat, by omega⟩
  have := u64_or_nat b 9223372036854775808 (by omega) (by omega)
  rw [show ((9223372036854775808 : Nat) : Int) = 9223372036854775808 from rfl] at this
  rw [this]
  have h2 : b ||| 9223372036854775808 = 9223372036854775808 + b := by
    have := Nat.two_pow_add_eq_or_of_lt (i := 63) (b := b) (by omega) 1
    rw [Nat.mul_one, show 2 ^ 63 = 9223372036854775808 from rfl] at this
    rw [Nat.or_comm]; exact this.symm
  rw [h2]; omega
set_option maxHeartbeats 1000000 in
theorem rank_any (f : Int) (w : World) (h0 : 0 ≤ f) (h1 : f ≤ 18446744073709551615) : Calls Tryz.prog 39 #[.int .u64 f] w (RankPost (fbits f) w) := by
  obtain ⟨N, hN⟩ : ∃ N, fbits f = N := ⟨_, rfl⟩
  rw [hN]
  by_cases hf : f < 9223372036854775808
  · have hb : bits .or .u64 f 9223372036854775808 = N := by rw [ior_top f h0 hf, ← hN]; unfold fbits; rw [if_pos hf]
    have t1 : (f / 9223372036854775808 == 1) = false := by simp; omega
    clear hN
    go_enter Tryz.func39, Tryz.ntmps39
    go_wp2
    go_ret
    exact ⟨rfl, rfl⟩
  · have hb : bits .xor .u64 IntKind.u64.max f = N := by rw [ixor_all f h0 h1, ← hN]; unfold fbits; rw [if_neg hf]
    have t1 : (f / 9223372036854775808 == 1) = true := by simp; omega
    clear hN
    go_enter Tryz.func39, Tryz.ntmps39
    go_wp2
    go_ret
    exact ⟨rfl, rfl⟩
/-- the first that is not nought -/
def orL : List Int → Int
  | [] => 0
  | x :: xs => if x ≠ 0 then x else orL xs
theorem orL_drop {zs : List Int} {k : Nat} {x : Int} (h : zs[k]? = some x) : orL (zs.drop k) = if x ≠ 0 then x else orL (zs.drop (k + 1)) := by
  obtain ⟨hl, hx⟩ := List.getElem?_eq_some_iff.1 h
  rw [List.drop_eq_getElem_cons hl, hx, orL]
set_option maxHeartbeats 2000000 in
theorem or_any (b : Nat) (c : Nat) (zs : List Int) (w : World) (hc : ∀ k x, zs[k]? = some x → w.cell? ⟨b, k, none⟩ = some (.int .i64 x)) (hl : zs.length ≤ 100) : Calls Tryz.prog 35 #[.slice (some ⟨b, 0, none⟩) zs.length c] w (CmpPost (orL zs) w) := by
  obtain ⟨n, hn⟩ : ∃ n, zs.length = n := ⟨_, rfl⟩
  rw [hn] at hl ⊢
  have HN := Lib.hid hn
  have HC := Lib.hid hc
  clear hn hc
  go_enter Tryz.func35, Tryz.ntmps35
  go_wp2
  go_loop [8] (fun i => ∃ k : Nat, k ≤ n ∧ i = .int .i64 k ∧ Hid (orL (zs.drop k) = orL zs)) (fun i => n - (intOf i).toNat)
  case atStart => exact ⟨0, Nat.zero_le _, rfl, rfl⟩
  case round =>
    obtain ⟨k, hk, rfl, hr⟩ := hrel
    by_cases hlt : k < n
    · obtain ⟨x, hx⟩ : ∃ x, zs[k]? = some x := ⟨_, List.getElem?_eq_getElem (by rw [HN.out]; exact hlt)⟩
      have hcx := HC.out k x hx
      have hd := orL_drop hx
      rw [hr.out] at hd
      have HD := Lib.hid hd
      clear hx hd
      by_cases h0 : x = 0
      · subst h0
        have HD2 : Hid (orL (zs.drop (k + 1)) = orL zs) := Lib.hid (by rw [HD.out]; rfl)
        go_wp2
        go_round
        case rel => exact ⟨k + 1, by omega, by go_num, HD2⟩
        case measure => simp [intOf]; omega
      · have t1 : (x != 0) = true := by simpa using h0
        have HD2 : Hid (orL zs = x) := Lib.hid (by rw [HD.out, if_pos h0])
        clear h0
        go_wp2
        go_ret
        exact ⟨by rw [HD2.out]; rfl, rfl⟩
    · obtain rfl : k = n := by omega
      have h0 : orL zs = 0 := by rw [← hr.out, List.drop_of_length_le (Nat.le_of_eq HN.out)]; rfl
      have H0 := Lib.hid h0
      clear h0
      go_wp2
      go_ret
      exact ⟨by rw [H0.out]; rfl, rfl⟩
end Go.Proofs.YtldhmfkojaekfaaGreatDoor
namespace Go.Proofs.YtldhmfkojaekfaaGreatDoor
open Go.RowKit Gx
set_option maxRecDepth 100000
def cmpL {α : Type} (f : α → α → Int) : List α → List α → Int
  | [], [] => 0
  | [], _ :: _ => -1
  | _ :: _, [] => 1
  | x :: xs, y :: ys => if f x y ≠ 0 then f x y else cmpL f xs ys
theorem cmpL_step {α : Type} {f : α → α → Int} {a b : List α} {k : Nat} {x y : α} (hx : a[k]? = some x) (hy : b[k]? = some y) : cmpL f (a.drop k) (b.drop k) = if f x y ≠ 0 then f x y else cmpL f (a.drop (k + 1)) (b.drop (k + 1)) := by
  obtain ⟨h1, e1⟩ := List.getElem?_eq_some_iff.1 hx
  obtain ⟨h2, e2⟩ := List.getElem?_eq_some_iff.1 hy
  rw [List.drop_eq_getElem_cons h1, List.drop_eq_getElem_cons h2, e1, e2, cmpL]
theorem cmpL_long {α : Type} {f : α → α → Int} {a b : List α} {k : Nat} (ha : k < a.length) (hb : b.length ≤ k) : cmpL f (a.drop k) (b.drop k) = 1 := by
  rw [List.drop_eq_getElem_cons ha, List.drop_of_length_le hb, cmpL]
theorem cmpL_end {α : Type} {f : α → α → Int} {a b : List α} {k : Nat} (ha : a.length ≤ k) : cmpL f (a.drop k) (b.drop k) = if k < b.length then -1 else 0 := by
  rw [List.drop_of_length_le ha]
  by_cases h : k < b.length
  · rw [if_pos h, List.drop_eq_getElem_cons h, cmpL]
  · rw [if_neg h, List.drop_of_length_le (by omega), cmpL]
def IntPost (c : Int) (w : World) (e : Ending) (w' : World) : Prop := e = .returned (.int .i64 c) ∧ Below w.heap.size w w'

set_option maxHeartbeats 8000000 in
theorem cmpVals_any (f : V → V → Int) (l l' : List V) (ad ad' : Option Addr) (cap cap' : Nat) (w : World) (h : RowAt w (fun _ => True) false (lp l) (.slice ad l.length cap)) (h' : RowAt w (fun _ => True) false (lp l') (.slice ad' l'.length cap'))
    (ih : ∀ (q p : Loc) (w : World), q.v ∈ l → VAt w (fun _ => True) q → VAt w (fun _ => True) p → Calls Tryz.prog 23 #[q.val, p.val] w (IntPost (f q.v p.v) w)) :
    Calls Tryz.prog 41 #[.slice ad l.length cap, .slice ad' l'.length cap', .func (.func 23) #[] #[]] w (IntPost (cmpL f l l') w) := by
  have hb := h.lbound
  have hb' := h'.lbound
  obtain ⟨n, hn⟩ : ∃ n, l.length = n := ⟨_, rfl⟩
  obtain ⟨n', hn'⟩ : ∃ n', l'.length = n' := ⟨_, rfl⟩
  rw [hn] at hb h ⊢
  rw [hn'] at hb' h' ⊢
  have HN := Lib.hid hn
  have HN' := Lib.hid hn'
  have H := Lib.hid h
  have H' := Lib.hid h'
  have IH := Lib.hid ih
  clear hn hn' h h' ih
  go_enter Tryz.func41, Tryz.ntmps41
  go_wp2_with fail
  go_loopw [13] (fun v13 wr => ∃ k : Nat, k ≤ n ∧ v13 = .int .i64 k ∧ Hid (Below w.heap.size w wr) ∧ Hid (cmpL f (l.drop k) (l'.drop k) = cmpL f l l')) (fun v13 _ => n - (intOf v13).toNat)
  case atStart => exact ⟨0, Nat.zero_le _, rfl, Lib.hid (Below.refl _ _), rfl⟩
  case round =>
    obtain ⟨k, hk, rfl, HB, HK⟩ := hrel
    by_cases hlt : k < n
    · obtain ⟨x, hx⟩ : ∃ x, l[k]? = some x := ⟨_, List.getElem?_eq_getElem (by rw [HN.out]; exact hlt)⟩
      obtain ⟨b, off, hd, -, hbl, hcs⟩ := H.out.elem (by rw [HN.out]; omega)
      subst hd
      obtain ⟨q, rfl, hvq, gs⟩ := hcs k x hx
      obtain ⟨g0, g1, g2, g3, g4, g5⟩ := gs.through (HB.out.block _ hbl)
      have hc6 : CellsAt (wr.alloc (.cells #[.int .i64 q.v.k, .int .i64 q.v.n, .int .u64 q.v.f, .string q.v.s, .slice q.ad q.v.l.length q.cap, .slice q.bd q.v.e.length q.dap] 26)) wr.heap.size 0 q := CellsAt.box (heap_alloc_new wr _)
      have hb6 : Below w.heap.size w (wr.alloc (.cells #[.int .i64 q.v.k, .int .i64 q.v.n, .int .u64 q.v.f, .string q.v.s, .slice q.ad q.v.l.length q.cap, .slice q.bd q.v.e.length q.dap] 26)) := HB.out.alloc HB.out.size _
      have hsz6 : wr.heap.size < (wr.alloc (.cells #[.int .i64 q.v.k, .int .i64 q.v.n, .int .u64 q.v.f, .string q.v.s, .slice q.ad q.v.l.length q.cap, .slice q.bd q.v.e.length q.dap] 26)).heap.size := by simp
      go_upto_region 4 with fail
      generalize hw6 : World.alloc wr _ = w6 at hc6 hb6 hsz6 ⊢
      clear hw6 g0 g1 g2 g3 g4 g5 gs hcs
      have HB6 := Lib.hid hb6
      have HC6 := Lib.hid hc6
      have HQ := Lib.hid hvq
      have HX := Lib.hid hx
      clear hb6 hc6 hvq hx
      by_cases hlt2 : k < n'
      · have t1 : decide ((n' : Int) ≤ (k : Int)) = false := decide_eq_false (by omega)
        have t1n : decide (n' ≤ k) = false := decide_eq_false (by omega)
        obtain ⟨y, hy⟩ : ∃ y, l'[k]? = some y := ⟨_, List.getElem?_eq_getElem (by rw [HN'.out]; exact hlt2)⟩
        obtain ⟨b', off', hd, -, hbl', hcs⟩ := H'.out.elem (by rw [HN'.out]; omega)
        subst hd
        obtain ⟨p, rfl, hvp, gs⟩ := hcs k y hy
        obtain ⟨g0, g1, g2, g3, g4, g5⟩ := gs.through (HB6.out.block _ hbl')
        have hc7 : CellsAt (w6.alloc (.cells #[.int .i64 p.v.k, .int .i64 p.v.n, .int .u64 p.v.f, .string p.v.s, .slice p.ad p.v.l.length p.cap, .slice p.bd p.v.e.length p.dap] 26)) w6.heap.size 0 p := CellsAt.box (heap_alloc_new w6 _)
        have hb7 : Below w.heap.size w (w6.alloc (.cells #[.int .i64 p.v.k, .int .i64 p.v.n, .int .u64 p.v.f, .string p.v.s, .slice p.ad p.v.l.length p.cap, .slice p.bd p.v.e.length p.dap] 26)) := HB6.out.alloc HB6.out.size _
        have hb67 : CellsAt (w6.alloc (.cells #[.int .i64 p.v.k, .int .i64 p.v.n, .int .u64 p.v.f, .string p.v.s, .slice p.ad p.v.l.length p.cap, .slice p.bd p.v.e.length p.dap] 26)) wr.heap.size 0 q := HC6.out.through (Below.heap_alloc w6 _ _ hsz6)
        go_upto_region 7 with fail
        generalize hw7 : World.alloc w6 _ = w7 at hc7 hb7 hb67 ⊢
        clear hw7 g0 g1 g2 g3 g4 g5 gs hcs t1 t1n
        obtain ⟨a0, a1, a2, a3, a4, a5⟩ := hb67
        obtain ⟨d0, d1, d2, d3, d4, d5⟩ := hc7
        have hih := IH.out q p w7 (List.mem_of_getElem? HX.out) (HQ.out.keep hb7) (hvp.keep hb7)
        simp only [Loc.val] at hih
        have HIH := Lib.hid hih
        have hst := cmpL_step (f := f) HX.out hy
        rw [HK.out] at hst
        have HST := Lib.hid hst
        have HB7 := Lib.hid hb7
        clear hih hst hb7 hvp hy
        obtain ⟨r, hr⟩ : ∃ r, f q.v p.v = r := ⟨_, rfl⟩
        rw [hr] at HIH HST
        clear hr
        go_wp2_with fail
        (with_reducible refine HIH.out.mono ?_)
        rintro e w8 ⟨rfl, hb8⟩
        have HB8 := Lib.hid (HB7.out.trans (hb8.mono HB7.out.size))
        clear hb8 a0 a1 a2 a3 a4 a5 d0 d1 d2 d3 d4 d5
        by_cases h0 : r = 0
        · subst h0
          have HK2 : Hid (cmpL f (l.drop (k + 1)) (l'.drop (k + 1)) = cmpL f l l') := Lib.hid (by rw [HST.out]; rfl)
          go_wp2_with fail
          go_roundw
          case rel => exact ⟨k + 1, by omega, by go_num, HB8, HK2⟩
          case measure => simp [intOf]; omega
        · have t2 : (r != 0) = true := by simpa using h0
          have HR : Hid (cmpL f l l' = r) := Lib.hid (by rw [HST.out, if_pos h0])
          clear h0
          go_wp2_with fail
          try go_ret
          exact ⟨by rw [HR.out]; rfl, HB8.out⟩
      · have t1 : decide ((n' : Int) ≤ (k : Int)) = true := decide_eq_true (by omega)
        have t1n : decide (n' ≤ k) = true := decide_eq_true (by omega)
        have HR : Hid (cmpL f l l' = 1) := Lib.hid (by rw [← HK.out]; exact cmpL_long (by rw [HN.out]; exact hlt) (by rw [HN'.out]; omega))
        go_wp2_with fail
        try go_ret
        exact ⟨by rw [HR.out]; rfl, HB6.out⟩
    · obtain rfl : k = n := by omega
      have hke := HK.out
      rw [cmpL_end (Nat.le_of_eq HN.out), HN'.out] at hke
      have HKE := Lib.hid hke
      clear hke
      by_cases hlt2 : k < n'
      · have t1 : decide ((k : Int) < (n' : Int)) = true := decide_eq_true (by omega)
        have t1n : decide (k < n') = true := decide_eq_true (by omega)
        have HR : Hid (cmpL f l l' = -1) := Lib.hid (by rw [← HKE.out, if_pos hlt2])
        go_wp2_with fail
        try go_ret
        exact ⟨by rw [HR.out]; rfl, HB.out⟩
      · have t1 : decide ((k : Int) < (n' : Int)) = false := decide_eq_false (by omega)
        have t1n : decide (k < n') = false := decide_eq_false (by omega)
        have HR : Hid (cmpL f l l' = 0) := Lib.hid (by rw [← HKE.out, if_neg hlt2])
        go_wp2_with fail
        try go_ret
        exact ⟨by rw [HR.out]; rfl, HB.out⟩
end Go.Proofs.YtldhmfkojaekfaaGreatDoor
namespace Go.Proofs.YtldhmfkojaekfaaGreatDoor
open Go.RowKit Gx
set_option maxRecDepth 100000
/-- an entry in a block of its own -/
structure SevAt (w : World) (b : Nat) (key : ByteArray) (q : Loc) : Prop where
  k : w.cell? ⟨b, 0, none⟩ = some (.string key)
  c0 : w.cell? ⟨b, 1, none⟩ = some (.int .i64 q.v.k)
  c1 : w.cell? ⟨b, 2, none⟩ = some (.int .i64 q.v.n)
  c2 : w.cell? ⟨b, 3, none⟩ = some (.int .u64 q.v.f)
  c3 : w.cell? ⟨b, 4, none⟩ = some (.string q.v.s)
  c4 : w.cell? ⟨b, 5, none⟩ = some (.slice q.ad q.v.l.length q.cap)
  c5 : w.cell? ⟨b, 6, none⟩ = some (.slice q.bd q.v.e.length q.dap)
theorem SevAt.box {w : World} {b : Nat} {key : ByteArray} {q : Loc} {ty : TypeId} (h : w.heap[b]? = some (.cells #[.string key, .int .i64 q.v.k, .int .i64 q.v.n, .int .u64 q.v.f, .string q.v.s, .slice q.ad q.v.l.length q.cap, .slice q.bd q.v.e.length q.dap] ty)) : SevAt w b key q := by
  constructor <;> simp [World.cell?, h]
theorem SevAt.through {w w' : World} {b : Nat} {key : ByteArray} {q : Loc} (h : SevAt w b key q) (hb : w'.heap[b]? = w.heap[b]?) : SevAt w' b key q := by
  have hq : ∀ o, w'.cell? ⟨b, o, none⟩ = w.cell? ⟨b, o, none⟩ := fun o => World.cell?_of_block hb
  exact ⟨(hq _).trans h.k, (hq _).trans h.c0, (hq _).trans h.c1, (hq _).trans h.c2, (hq _).trans h.c3, (hq _).trans h.c4, (hq _).trans h.c5⟩
set_option maxHeartbeats 8000000 in
theorem cmpEnts_any (f : ByteArray × V → ByteArray × V → Int) (l l' : List (ByteArray × V)) (ad ad' : Option Addr) (cap cap' : Nat) (w : World) (h : RowAt w (fun _ => True) true l (.slice ad l.length cap)) (h' : RowAt w (fun _ => True) true l' (.slice ad' l'.length cap'))
    (ih : ∀ (x y : ByteArray × V) (q p : Loc) (w : World), x ∈ l → q.v = x.2 → p.v = y.2 → VAt w (fun _ => True) q → VAt w (fun _ => True) p → Calls Tryz.prog 43 #[.agg #[.string x.1, .int .i64 q.v.k, .int .i64 q.v.n, .int .u64 q.v.f, .string q.v.s, .slice q.ad q.v.l.length q.cap, .slice q.bd q.v.e.length q.dap], .agg #[.string y.1, .int .i64 p.v.k, .int .i64 p.v.n, .int .u64 p.v.f, .string p.v.s, .slice p.ad p.v.l.length p.cap, .slice p.bd p.v.e.length p.dap]] w (IntPost (f x y) w)) :
    Calls Tryz.prog 42 #[.slice ad l.length cap, .slice ad' l'.length cap', .func (.func 43) #[] #[]] w (IntPost (cmpL f l l') w) := by
  have hb := h.ebound
  have hb' := h'.ebound
  obtain ⟨n, hn⟩ : ∃ n, l.length = n := ⟨_, rfl⟩
  obtain ⟨n', hn'⟩ : ∃ n', l'.length = n' := ⟨_, rfl⟩
  rw [hn] at hb h ⊢
  rw [hn'] at hb' h' ⊢
  have HN := Lib.hid hn
  have HN' := Lib.hid hn'
  have H := Lib.hid h
  have H' := Lib.hid h'
  have IH := Lib.hid ih
  clear hn hn' h h' ih
  go_enter Tryz.func42, Tryz.ntmps42
  go_wp2_with fail
  go_loopw [13] (fun v13 wr => ∃ k : Nat, k ≤ n ∧ v13 = .int .i64 k ∧ Hid (Below w.heap.size w wr) ∧ Hid (cmpL f (l.drop k) (l'.drop k) = cmpL f l l')) (fun v13 _ => n - (intOf v13).toNat)
  case atStart => exact ⟨0, Nat.zero_le _, rfl, Lib.hid (Below.refl _ _), rfl⟩
  case round =>
    obtain ⟨k, hk, rfl, HB, HK⟩ := hrel
    by_cases hlt : k < n
    · obtain ⟨x, hx⟩ : ∃ x, l[k]? = some x := ⟨_, List.getElem?_eq_getElem (by rw [HN.out]; exact hlt)⟩
      obtain ⟨b, off, hd, -, hbl, hcs⟩ := H.out.entry (by rw [HN.out]; omega)
      subst hd
      obtain ⟨-, gk, q, hqx, hvq, gs⟩ := hcs k x hx
      have HQX := Lib.hid hqx
      clear hqx
      have gk' : wr.cell? ⟨b, off + k * 7, none⟩ = _ := (World.cell?_of_block (HB.out.block _ hbl)).trans gk
      obtain ⟨g0, g1, g2, g3, g4, g5⟩ := (gs.through (HB.out.block _ hbl)).seven
      have hc6 : SevAt (wr.alloc (.cells #[.string x.1, .int .i64 q.v.k, .int .i64 q.v.n, .int .u64 q.v.f, .string q.v.s, .slice q.ad q.v.l.length q.cap, .slice q.bd q.v.e.length q.dap] 44)) wr.heap.size x.1 q := SevAt.box (heap_alloc_new wr _)
      have hb6 : Below w.heap.size w (wr.alloc (.cells #[.string x.1, .int .i64 q.v.k, .int .i64 q.v.n, .int .u64 q.v.f, .string q.v.s, .slice q.ad q.v.l.length q.cap, .slice q.bd q.v.e.length q.dap] 44)) := HB.out.alloc HB.out.size _
      have hsz6 : wr.heap.size < (wr.alloc (.cells #[.string x.1, .int .i64 q.v.k, .int .i64 q.v.n, .int .u64 q.v.f, .string q.v.s, .slice q.ad q.v.l.length q.cap, .slice q.bd q.v.e.length q.dap] 44)).heap.size := by simp
      go_upto_region 4 with fail
      generalize hw6 : World.alloc wr _ = w6 at hc6 hb6 hsz6 ⊢
      clear hw6 gk gk' g0 g1 g2 g3 g4 g5 gs hcs
      have HB6 := Lib.hid hb6
      have HC6 := Lib.hid hc6
      have HQ := Lib.hid hvq
      have HX := Lib.hid hx
      clear hb6 hc6 hvq hx
      by_cases hlt2 : k < n'
      · have t1 : decide ((n' : Int) ≤ (k : Int)) = false := decide_eq_false (by omega)
        have t1n : decide (n' ≤ k) = false := decide_eq_false (by omega)
        obtain ⟨y, hy⟩ : ∃ y, l'[k]? = some y := ⟨_, List.getElem?_eq_getElem (by rw [HN'.out]; exact hlt2)⟩
        obtain ⟨b', off', hd, -, hbl', hcs⟩ := H'.out.entry (by rw [HN'.out]; omega)
        subst hd
        obtain ⟨-, gk, p, hpy, hvp, gs⟩ := hcs k y hy
        have HPY := Lib.hid hpy
        clear hpy
        have gk' : w6.cell? ⟨b', off' + k * 7, none⟩ = _ := (World.cell?_of_block (HB6.out.block _ hbl')).trans gk
        obtain ⟨g0, g1, g2, g3, g4, g5⟩ := (gs.through (HB6.out.block _ hbl')).seven
        have hc7 : SevAt (w6.alloc (.cells #[.string y.1, .int .i64 p.v.k, .int .i64 p.v.n, .int .u64 p.v.f, .string p.v.s, .slice p.ad p.v.l.length p.cap, .slice p.bd p.v.e.length p.dap] 44)) w6.heap.size y.1 p := SevAt.box (heap_alloc_new w6 _)
        have hb7 : Below w.heap.size w (w6.alloc (.cells #[.string y.1, .int .i64 p.v.k, .int .i64 p.v.n, .int .u64 p.v.f, .string p.v.s, .slice p.ad p.v.l.length p.cap, .slice p.bd p.v.e.length p.dap] 44)) := HB6.out.alloc HB6.out.size _
        have hb67 : SevAt (w6.alloc (.cells #[.string y.1, .int .i64 p.v.k, .int .i64 p.v.n, .int .u64 p.v.f, .string p.v.s, .slice p.ad p.v.l.length p.cap, .slice p.bd p.v.e.length p.dap] 44)) wr.heap.size x.1 q := HC6.out.through (Below.heap_alloc w6 _ _ hsz6)
        go_upto_region 7 with fail
        generalize hw7 : World.alloc w6 _ = w7 at hc7 hb7 hb67 ⊢
        clear hw7 gk gk' g0 g1 g2 g3 g4 g5 gs hcs t1 t1n
        obtain ⟨ak, a0, a1, a2, a3, a4, a5⟩ := hb67
        obtain ⟨dk, d0, d1, d2, d3, d4, d5⟩ := hc7
        have hih := IH.out x y q p w7 (List.mem_of_getElem? HX.out) HQX.out HPY.out (HQ.out.keep hb7) (hvp.keep hb7)
        have HIH := Lib.hid hih
        have hst := cmpL_step (f := f) HX.out hy
        rw [HK.out] at hst
        have HST := Lib.hid hst
        have HB7 := Lib.hid hb7
        clear hih hst hb7 hvp hy
        obtain ⟨r, hr⟩ : ∃ r, f x y = r := ⟨_, rfl⟩
        rw [hr] at HIH HST
        clear hr
        go_wp2_with fail
        (with_reducible refine HIH.out.mono ?_)
        rintro e w8 ⟨rfl, hb8⟩
        have HB8 := Lib.hid (HB7.out.trans (hb8.mono HB7.out.size))
        clear hb8 ak dk a0 a1 a2 a3 a4 a5 d0 d1 d2 d3 d4 d5
        by_cases h0 : r = 0
        · subst h0
          have HK2 : Hid (cmpL f (l.drop (k + 1)) (l'.drop (k + 1)) = cmpL f l l') := Lib.hid (by rw [HST.out]; rfl)
          go_wp2_with fail
          go_roundw
          case rel => exact ⟨k + 1, by omega, by go_num, HB8, HK2⟩
          case measure => simp [intOf]; omega
        · have t2 : (r != 0) = true := by simpa using h0
          have HR : Hid (cmpL f l l' = r) := Lib.hid (by rw [HST.out, if_pos h0])
          clear h0
          go_wp2_with fail
          try go_ret
          exact ⟨by rw [HR.out]; rfl, HB8.out⟩
      · have t1 : decide ((n' : Int) ≤ (k : Int)) = true := decide_eq_true (by omega)
        have t1n : decide (n' ≤ k) = true := decide_eq_true (by omega)
        have HR : Hid (cmpL f l l' = 1) := Lib.hid (by rw [← HK.out]; exact cmpL_long (by rw [HN.out]; exact hlt) (by rw [HN'.out]; omega))
        go_wp2_with fail
        try go_ret
        exact ⟨by rw [HR.out]; rfl, HB6.out⟩
    · obtain rfl : k = n := by omega
      have hke := HK.out
      rw [cmpL_end (Nat.le_of_eq HN.out), HN'.out] at hke
      have HKE := Lib.hid hke
      clear hke
      by_cases hlt2 : k < n'
      · have t1 : decide ((k : Int) < (n' : Int)) = true := decide_eq_true (by omega)
        have t1n : decide (k < n') = true := decide_eq_true (by omega)
        have HR : Hid (cmpL f l l' = -1) := Lib.hid (by rw [← HKE.out, if_pos hlt2])
        go_wp2_with fail
        try go_ret
        exact ⟨by rw [HR.out]; rfl, HB.out⟩
      · have t1 : decide ((k : Int) < (n' : Int)) = false := decide_eq_false (by omega)
        have t1n : decide (k < n') = false := decide_eq_false (by omega)
        have HR : Hid (cmpL f l l' = 0) := Lib.hid (by rw [← HKE.out, if_neg hlt2])
        go_wp2_with fail
        try go_ret
        exact ⟨by rw [HR.out]; rfl, HB.out⟩
end Go.Proofs.YtldhmfkojaekfaaGreatDoor
