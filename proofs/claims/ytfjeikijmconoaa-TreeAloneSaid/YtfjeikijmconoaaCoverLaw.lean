/-
  Plain law of TreeCovers: kids lie within their node, one behind the other, and what is between them is no word, no text and nothing bad. No conditions.
-/
import Derived.Test.YtfjeikijmconoaaTreeKids
namespace Go.Proofs.Ytfjeikijmconoaa

/-- no word, no text and nothing bad there -/
def Gap (X : TS) (i j : Nat) : Prop := ∀ t, i ≤ t → t < j → X.kind t ≠ 4 ∧ X.kind t ≠ 5 ∧ X.kind t ≠ 7
theorem Gap.none (X : TS) (i : Nat) : Gap X i i := fun t a b => by omega
theorem Gap.trans {X : TS} {i j k : Nat} (h : Gap X i j) (g : Gap X j k) : Gap X i k := fun t a b => by
  rcases Nat.lt_or_ge t j with h1 | h1
  · exact h t a h1
  · exact g t h1 b
theorem Gap.one {X : TS} {i : Nat} (h : X.kind i = 6) : Gap X i (i + 1) := fun t a b => by
  obtain rfl : t = i := by omega
  rw [h]
  decide
theorem skip_gap (X : TS) (s : PS) : Gap X s.i (s.skip X).i := by
  have h : ∀ (L : List (Int × Nat × Nat)) (j : Nat), j < skipN L → ∃ t, L[j]? = some t ∧ solidK t.1 = false := by
    intro L
    induction L with
    | nil => intro j hj; simp [skipN] at hj
    | cons t L ih =>
      intro j hj
      unfold skipN at hj
      split at hj
      · omega
      · rename_i ht
        cases j with
        | zero => exact ⟨t, rfl, by simpa using ht⟩
        | succ j => exact ih j (by omega)
  intro t a b
  have hb : t < s.i + skipN (X.T.drop s.i) := b
  obtain ⟨u, hu, hs⟩ := h (X.T.drop s.i) (t - s.i) (by omega)
  rw [List.getElem?_drop, show s.i + (t - s.i) = t by omega] at hu
  have hk : X.kind t = u.1 := by unfold TS.kind; rw [hu]
  rw [hk]
  unfold solidK at hs
  simp only [Bool.and_eq_false_iff, decide_eq_false_iff_not] at hs
  omega
theorem mark_kind {X : TS} {s : PS} {e : UInt8} (h : s.mark X = e) (he : e ≠ 0) : X.kind s.i = 6 := by
  by_cases h6 : X.kind s.i = 6
  · exact h6
  · exfalso
    unfold PS.mark at h
    rw [if_neg h6] at h
    exact he h.symm

/-- from a place on kids lie one behind the other, up to an end -/
def Lies (X : TS) (e : Nat) : Nat → List Nd → Prop
  | i, [] => i ≤ e ∧ Gap X i e
  | i, n :: r => i ≤ n.a ∧ n.a < n.b ∧ n.b ≤ e ∧ Gap X i n.a ∧ Lies X e n.b r
theorem Lies.from {X : TS} {e i j : Nat} {l : List Nd} (h : Lies X e j l) (hij : i ≤ j) (g : Gap X i j) : Lies X e i l := by
  cases l with
  | nil => exact ⟨by have := h.1; omega, g.trans h.2⟩
  | cons n r => exact ⟨by have := h.1; omega, h.2.1, h.2.2.1, g.trans h.2.2.2.1, h.2.2.2.2⟩
theorem Lies.upto {X : TS} {e d : Nat} (hed : e ≤ d) (g : Gap X e d) : ∀ {i : Nat} {l : List Nd}, Lies X e i l → Lies X d i l
  | i, [], h => ⟨by have := h.1; omega, h.2.trans g⟩
  | i, n :: r, h => ⟨h.1, h.2.1, by have := h.2.2.1; omega, h.2.2.2.1, Lies.upto hed g h.2.2.2.2⟩
inductive Covers (X : TS) : Nd → Prop
  | mk (k : Int) (a b : Nat) (kids : List Nd) (hab : a ≤ b) (hb : b ≤ X.T.length) (h : kids = [] ∨ Lies X b a kids) (hk : ∀ n ∈ kids, Covers X n) : Covers X (.mk k a b kids)
/-- a call that has not failed: its node lies behind where it began, and ends where it ends -/
structure Res (X : TS) (s : PS) (r : PS × Nd) : Prop where
  lo : s.i ≤ r.2.a
  gap : Gap X s.i r.2.a
  ab : r.2.a < r.2.b
  b : r.2.b = r.1.i
  le : r.1.i ≤ X.T.length
  cov : Covers X r.2
def Cov (X : TS) (f : PS → PS × Nd) : Prop := ∀ s : PS, (f s).1.bad = 0 → s.i ≤ X.T.length → Res X s (f s)
theorem good_of {f : PS → PS} (h : Stays f) {s : PS} (hb : (f s).bad = 0) : s.bad = 0 := by
  by_cases h0 : s.bad = 0
  · exact h0
  · exact absurd ((h s h0).1 ▸ hb) h0
theorem fail_not {X : TS} {e : Int} (he : e ≠ 0) {s : PS} (h : (s.fail X e).bad = 0) : False := fail_bad X e he s h
theorem leaf_cov (X : TS) (k : Int) : Cov X (leafS X k) := fun s hb hi => by
  have hsk := skip_fine X s
  have hg := skip_gap X s
  unfold leafS at hb ⊢
  split at hb
  · rename_i h3
    rw [if_pos h3]
    have h4 : (s.skip X).i < X.T.length := by
      rcases Nat.lt_or_ge (s.skip X).i X.T.length with h4 | h4
      · exact h4
      · exfalso
        unfold TS.kind at h3
        rw [List.getElem?_eq_none h4] at h3
        exact absurd h3 (by decide)
    exact ⟨hsk.1, hg, Nat.lt_succ_self _, rfl, h4, .mk _ _ _ _ (Nat.le_succ _) h4 (.inl rfl) (fun n hn => absurd hn (by simp))⟩
  · exact (fail_not (by decide) hb).elim
theorem many_cov {X : TS} {kid : PS → PS × Nd} (hk : Cov X kid) (hs : Stays fun s => (kid s).1) (e : UInt8) (he : e ≠ 0) : ∀ (f : Nat) (s : PS) (ks : List Nd), (manyS X kid e f s ks).1.bad = 0 → s.i ≤ X.T.length →
    ∃ new, (manyS X kid e f s ks).2 = ks ++ new ∧ (∀ n ∈ new, Covers X n) ∧ Lies X (manyS X kid e f s ks).1.i s.i new ∧ X.kind (manyS X kid e f s ks).1.i = 6 ∧ (manyS X kid e f s ks).1.i < X.T.length
  | 0, s, ks, hb, hi => (fail_not (X := X) (e := 4) (by decide) hb).elim
  | f + 1, s, ks, hb, hi => by
    have hs0 : s.bad = 0 := good_of (f := fun u => (manyS X kid e (f + 1) u ks).1) (fun u hu => many_stays X kid e (f + 1) u ks hu) hb
    by_cases hm : (s.skip X).mark X = e
    · have e1 : manyS X kid e (f + 1) s ks = (s.skip X, ks) := by rw [manyS, if_pos (.inl hm)]
      rw [e1]
      exact ⟨[], by simp, fun n hn => absurd hn (by simp), ⟨(skip_fine X s).1, skip_gap X s⟩, mark_kind hm he, mark_lt hm he⟩
    · have hn : ¬ ((s.skip X).mark X = e ∨ s.bad ≠ 0) := fun h => h.elim hm (fun h => h hs0)
      have hgo := manyS_go (kid := kid) (ks := ks) (Nat.succ_le_succ (Nat.zero_le f)) hn
      rw [hgo] at hb ⊢
      rw [show f + 1 - 1 = f from rfl] at hb ⊢
      obtain ⟨n, hnd⟩ : ∃ n, (kid (s.skip X)).2 = n := ⟨_, rfl⟩
      obtain ⟨t, ht⟩ : ∃ t, (kid (s.skip X)).1.skip X = t := ⟨_, rfl⟩
      rw [ht, hnd] at hb ⊢
      have hr0 : (roundS X e t).bad = 0 := good_of (f := fun u => (manyS X kid e f u (ks ++ [n])).1) (fun u hu => many_stays X kid e f u _ hu) hb
      have hk0 : (kid (s.skip X)).1.bad = 0 := by
        have : t.bad = 0 := by
          unfold roundS at hr0
          split at hr0
          · exact hr0
          · split at hr0
            · exact hr0
            · exact (fail_not (by decide) hr0).elim
        rw [← ht] at this
        exact this
      obtain ⟨Rlo, Rgap, Rab, hRb, Rle, Rcov⟩ := hk (s.skip X) hk0 ((skip_fine X s).2.1 hi)
      rw [hnd] at Rlo Rgap Rab hRb Rcov
      have ht2 : (kid (s.skip X)).1.i ≤ t.i ∧ Gap X (kid (s.skip X)).1.i t.i ∧ t.i ≤ X.T.length := by
        rw [← ht]
        exact ⟨(skip_fine X _).1, skip_gap X _, (skip_fine X _).2.1 Rle⟩
      -- where the next round begins
      have hnx : t.i ≤ (roundS X e t).i ∧ Gap X t.i (roundS X e t).i ∧ (roundS X e t).i ≤ X.T.length := by
        unfold roundS at hr0 ⊢
        split at hr0
        · rename_i h44
          rw [if_pos h44]
          exact ⟨Nat.le_succ _, Gap.one (mark_kind h44 (by decide)), mark_lt h44 (by decide)⟩
        · rename_i h44
          rw [if_neg h44]
          split at hr0
          · rename_i h5
            rw [if_pos h5]
            exact ⟨Nat.le_refl _, Gap.none X _, ht2.2.2⟩
          · exact (fail_not (by decide) hr0).elim
      obtain ⟨new, h1, h2, h3, h4, h5⟩ := many_cov hk hs e he f (roundS X e t) (ks ++ [n]) hb hnx.2.2
      have h6 : Lies X (manyS X kid e f (roundS X e t) (ks ++ [n])).1.i n.b new := h3.from (by rw [hRb]; omega) (by rw [hRb]; exact ht2.2.1.trans hnx.2.1)
      have h7 : n.b ≤ (manyS X kid e f (roundS X e t) (ks ++ [n])).1.i := by
        cases new with
        | nil => exact h6.1
        | cons m r => have := h6.1; have := h6.2.1; have := h6.2.2.1; omega
      refine ⟨n :: new, by rw [h1]; simp, fun m hm => ?_, ⟨?_, Rab, h7, ?_, h6⟩, h4, h5⟩
      · rcases List.mem_cons.1 hm with rfl | hm
        · exact Rcov
        · exact h2 m hm
      · have := (skip_fine X s).1; omega
      · exact (skip_gap X s).trans Rgap
theorem manyN_cov {X : TS} {kid : PS → PS × Nd} (hk : Cov X kid) (hs : Stays fun s => (kid s).1) (k : Int) (e : UInt8) (he : e ≠ 0) (s : PS) (hb : (manyN X k e kid s).1.bad = 0) (h6 : X.kind s.i = 6) (hi : s.i < X.T.length) : Res X s (manyN X k e kid s) := by
  unfold manyN at hb ⊢
  obtain ⟨new, h1, h2, h3, h4, h5⟩ := many_cov hk hs e he X.F s.inc [] hb hi
  have hl : Lies X ((manyS X kid e X.F s.inc []).1.i + 1) s.i new := (h3.from (Nat.le_succ s.i) (Gap.one h6)).upto (Nat.le_succ _) (Gap.one h4)
  have hle : s.i < (manyS X kid e X.F s.inc []).1.i + 1 := by
    have hi : s.inc.i = s.i + 1 := rfl
    cases new with
    | nil => have := h3.1; omega
    | cons m r => have := h3.1; have := h3.2.1; have := h3.2.2.1; omega
  refine ⟨Nat.le_refl _, Gap.none X _, hle, rfl, h5, .mk _ _ _ _ (Nat.le_of_lt hle) h5 (.inr ?_) ?_⟩
  · rw [h1]; exact hl
  · rw [h1]; exact h2
theorem colon_good {X : TS} {u : PS} (h : (colonS X u).bad = 0) : colonS X u = u ∧ u.bad = 0 ∧ X.kind u.i = 6 ∧ u.i < X.T.length := by
  have hb := colon_bad h
  unfold colonS at h ⊢
  split at h
  · exact (fail_not (by decide) h).elim
  · rename_i h2
    rw [if_neg h2]
    refine ⟨rfl, h, ?_, hb.2⟩
    by_cases h58 : u.mark X = 58
    · exact mark_kind h58 (by decide)
    · by_cases h61 : u.mark X = 61
      · exact mark_kind h61 (by decide)
      · exact absurd ⟨h, h58, h61⟩ h2
theorem entry_cov {X : TS} {val : PS → PS × Nd} (hv : Cov X val) (hs : Stays fun s => (val s).1) : Cov X (entryS X val) := fun s hb hi => by
  unfold entryS at hb ⊢
  split at hb
  · rename_i h; exact absurd hb h
  · rename_i h
    rw [if_neg h]
    have hcb : (colonS X ((leafS X 2 s).1.skip X)).bad = 0 := by
      by_cases h0 : (colonS X ((leafS X 2 s).1.skip X)).bad = 0
      · exact h0
      · exact absurd h0 h
    obtain ⟨c1, c2, c3, c4⟩ := colon_good hcb
    rw [c1] at hb ⊢
    have K := leaf_cov X 2 s c2 hi
    have V := hv ((leafS X 2 s).1.skip X).inc hb c4
    generalize hkey : (leafS X 2 s).2 = key at *
    generalize hval : (val ((leafS X 2 s).1.skip X).inc) = r at *
    have hVlo := V.lo
    have hinc : ((leafS X 2 s).1.skip X).inc.i = ((leafS X 2 s).1.skip X).i + 1 := rfl
    have hsk := (skip_fine X (leafS X 2 s).1).1
    have hKb := K.b
    rw [hkey] at hKb
    have hKab := K.ab
    rw [hkey] at hKab
    have hVb := V.b
    have hVab := V.ab
    have hVle := V.le
    have hg : Gap X key.b r.2.a := by
      rw [hKb]
      exact ((skip_gap X _).trans (Gap.one c3)).trans V.gap
    have hKlo := K.lo
    rw [hkey] at hKlo
    have hKg := K.gap
    rw [hkey] at hKg
    have hKc := K.cov
    rw [hkey] at hKc
    refine ⟨hKlo, hKg, by show key.a < r.2.b; omega, hVb, hVle, .mk _ _ _ _ (by omega) (by omega) (.inr ⟨Nat.le_refl _, hKab, by omega, Gap.none X _, by omega, hVab, Nat.le_refl _, hg, Nat.le_refl _, Gap.none X _⟩) (fun n hn => ?_)⟩
    have : n = key ∨ n = r.2 := by simpa using hn
    rcases this with rfl | rfl
    · exact hKc
    · exact V.cov
theorem Res.skip {X : TS} {s : PS} {r : PS × Nd} (h : Res X (s.skip X) r) : Res X s r :=
  ⟨Nat.le_trans (skip_fine X s).1 h.lo, (skip_gap X s).trans h.gap, h.ab, h.b, h.le, h.cov⟩
theorem value_cov (X : TS) : ∀ r, Cov X (valueS X r)
  | 0 => fun s hb hi => by
    have hi2 := (skip_fine X s).2.1 hi
    unfold valueS at hb ⊢
    split at hb
    · exact (fail_not (by decide) hb).elim
    · rename_i h
      rw [if_neg h]
      exact (leaf_cov X 1 _ hb hi2).skip
  | r + 1 => fun s hb hi => by
    have ih := value_cov X r
    have hi2 := (skip_fine X s).2.1 hi
    unfold valueS at hb ⊢
    split at hb
    · rename_i h
      rw [if_pos h]
      exact (manyN_cov (entry_cov ih (value_stays X r)) (entry_stays X _) 3 125 (by decide) _ hb (mark_kind h (by decide)) (mark_lt h (by decide))).skip
    · rename_i h
      rw [if_neg h]
      split at hb
      · rename_i h2
        rw [if_pos h2]
        exact (manyN_cov ih (value_stays X r) 5 93 (by decide) _ hb (mark_kind h2 (by decide)) (mark_lt h2 (by decide))).skip
      · rename_i h2
        rw [if_neg h2]
        exact (leaf_cov X 1 _ hb hi2).skip
/-- THE LAW: a document covers its text -/
theorem doc_covers (X : TS) (hb : (parseS X).bad = 0) : Covers X (.mk 6 0 X.T.length [(valueS X 20 ⟨0, 0, 0⟩).2]) := by
  unfold parseS endS at hb
  split at hb
  · exact (fail_not (by decide) hb).elim
  · rename_i h
    have V := value_cov X 20 ⟨0, 0, 0⟩ hb (Nat.zero_le _)
    generalize valueS X 20 ⟨0, 0, 0⟩ = r at *
    have hVb := V.b
    have hVle := V.le
    have hsk := skip_fine X r.1
    have hg := skip_gap X r.1
    refine .mk _ _ _ _ (Nat.zero_le _) (Nat.le_refl _) (.inr ⟨Nat.zero_le _, V.ab, by omega, V.gap, by omega, ?_⟩) (fun n hn => ?_)
    · intro t h1 h2
      exact hg t (by omega) (by omega)
    · have : n = r.2 := by simpa using hn
      subst this
      exact V.cov
theorem Lies.len {X : TS} {e : Nat} : ∀ {i : Nat} {l : List Nd}, Lies X e i l → i + l.length ≤ e
  | i, [], h => h.1
  | i, n :: r, h => by
    have := Lies.len h.2.2.2.2
    have := h.1
    have := h.2.1
    rw [List.length_cons]
    omega
/-- the kids, and behind them the end -/
def ends (kids : List Nd) (b : Nat) : List Nd := kids ++ [.mk 0 b b []]
def atOf (a b : Nat) (kids : List Nd) (j : Nat) : Nat := if j = 0 then a else (((ends kids b)[j - 1]?).getD Nd.none).b
theorem Lies.steps {X : TS} {e : Nat} : ∀ {i : Nat} {l : List Nd}, Lies X e i l → ∀ j n, (ends l e)[j]? = some n → atOf i e l j ≤ n.a ∧ n.a ≤ n.b ∧ n.b ≤ e ∧ Gap X (atOf i e l j) n.a
  | i, [], h => fun j n hj => by
    cases j with
    | zero =>
      obtain rfl : Nd.mk 0 e e [] = n := by simpa [ends] using hj
      exact ⟨h.1, Nat.le_refl _, Nat.le_refl _, h.2⟩
    | succ j => simp [ends] at hj
  | i, m :: r, h => fun j n hj => by
    cases j with
    | zero =>
      obtain rfl : m = n := by simpa [ends] using hj
      exact ⟨h.1, Nat.le_of_lt h.2.1, h.2.2.1, h.2.2.2.1⟩
    | succ j =>
      have hj' : (ends r e)[j]? = some n := by simpa [ends] using hj
      have := Lies.steps h.2.2.2.2 j n hj'
      have ha : atOf i e (m :: r) (j + 1) = atOf m.b e r j := by
        unfold atOf
        cases j with
        | zero => simp [ends]
        | succ j => simp [ends]
      rw [ha]
      exact this
theorem Covers.ab {X : TS} {k : Int} {a b : Nat} {kids : List Nd} (h : Covers X (.mk k a b kids)) : a ≤ b ∧ b ≤ X.T.length := by
  cases h with
  | mk _ _ _ _ hab hb _ _ => exact ⟨hab, hb⟩
theorem Covers.len {X : TS} {k : Int} {a b : Nat} {kids : List Nd} (h : Covers X (.mk k a b kids)) : kids.length ≤ X.T.length := by
  cases h with
  | mk _ _ _ _ hab hb h _ =>
    rcases h with rfl | h
    · exact Nat.zero_le _
    · have := h.len; omega
theorem Covers.steps {X : TS} {k : Int} {a b : Nat} {kids : List Nd} (h : Covers X (.mk k a b kids)) (j : Nat) (n : Nd) (hj : (ends kids b)[j]? = some n) : atOf a b kids j ≤ n.a ∧ n.a ≤ n.b ∧ n.b ≤ b ∧ (0 < kids.length → Gap X (atOf a b kids j) n.a) := by
  cases h with
  | mk _ _ _ _ hab hb h _ =>
    rcases h with rfl | h
    · cases j with
      | zero =>
        obtain rfl : Nd.mk 0 b b [] = n := by simpa [ends] using hj
        exact ⟨hab, Nat.le_refl _, Nat.le_refl _, fun h => by simp at h⟩
      | succ j => simp [ends] at hj
    · have := h.steps j n hj
      exact ⟨this.1, this.2.1, this.2.2.1, fun _ => this.2.2.2⟩
theorem ends_get {kids : List Nd} {b j : Nat} {n : Nd} (hj : (ends kids b)[j]? = some n) (a : Nat) : atOf a b kids (j + 1) = n.b := by
  unfold atOf
  rw [if_neg (by omega), Nat.add_sub_cancel, hj]
  rfl
theorem Covers.kid {X : TS} {n m : Nd} (h : Covers X n) (hm : m ∈ n.kids) : Covers X m := by
  cases h with
  | mk _ _ _ _ _ _ _ hk => exact hk m hm
end Go.Proofs.Ytfjeikijmconoaa
