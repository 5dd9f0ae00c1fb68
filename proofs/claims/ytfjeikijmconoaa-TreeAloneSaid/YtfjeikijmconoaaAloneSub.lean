/-
  Plain law of TreeAlone: the text of some tokens is cut into them; which nodes of a document are values. No conditions.
-/
import Derived.Test.YtfjeikijmconoaaAloneLaw
namespace Go.Proofs.Ytfjeikijmconoaa

/-- a token ends where the next one begins, or the text ends -/
theorem toks_end (l : List UInt8) : ∀ (f a j : Nat) (t : Tok), l.length ≤ a + f → a ≤ l.length → (toksFrom l a)[j]? = some t →
    (∀ u, (toksFrom l a)[j + 1]? = some u → t.2.2 = u.2.1) ∧ ((toksFrom l a)[j + 1]? = none → t.2.2 = l.length)
  | 0, a, j, t, h, hl, ht => by rw [toksFrom_end _ _ (by omega)] at ht; simp at ht
  | f + 1, a, j, t, h, hl, ht => by
    by_cases ha : l.length ≤ a
    · rw [toksFrom_end _ _ ha] at ht; simp at ht
    · have hn := nextTok_fits (l.drop a) (by rw [List.length_drop]; omega)
      rw [List.length_drop] at hn
      have hst := toksFrom_step l a (by omega)
      cases j with
      | zero =>
        have e : t.2.2 = a + (nextTok (l.drop a)).2 := by
          rw [hst] at ht
          have := Option.some.inj ht
          rw [← this]
        rw [hst, List.getElem?_cons_succ, e]
        by_cases hl2 : l.length ≤ a + (nextTok (l.drop a)).2
        · rw [toksFrom_end _ _ hl2]
          exact ⟨fun u hu => by simp at hu, fun _ => by omega⟩
        · rw [toksFrom_step _ _ (by omega)]
          refine ⟨fun u hu => ?_, fun h => by simp at h⟩
          have := Option.some.inj hu
          rw [← this]
      | succ j =>
        rw [hst, List.getElem?_cons_succ] at ht
        rw [hst, List.getElem?_cons_succ]
        exact toks_end l f _ j t (by omega) (by omega) ht
/-- where the tokens of a node lie -/
def subFrom (X : TS) (a : Nat) : Nat := X.pos a
def subTo (X : TS) (b : Nat) : Nat := match X.T[b - 1]? with | some t => t.2.2 | none => 0
theorem sub_text (l : List UInt8) (F a b : Nat) (hab : a < b) (hb : b ≤ (treeOf l F).T.length) (h7 : ∀ t, a ≤ t → t < b → (treeOf l F).kind t ≠ 7) :
    subFrom (treeOf l F) a ≤ subTo (treeOf l F) b ∧ subTo (treeOf l F) b ≤ l.length ∧ Sub (treeOf l F) a b (treeOf ((l.drop (subFrom (treeOf l F) a)).take (subTo (treeOf l F) b - subFrom (treeOf l F) a)) F) := by
  have hTd : (treeOf l F).T = toksFrom l 0 := rfl
  rw [hTd] at hb
  have hpos : ∀ j t, (toksFrom l 0)[j]? = some t → (treeOf l F).pos j = t.2.1 := fun j t h => by
    unfold TS.pos
    rw [hTd, h]
  have hga : (toksFrom l 0)[a]? = some ((toksFrom l 0)[a]'(by omega)) := List.getElem?_eq_getElem _
  obtain ⟨p, hp⟩ : ∃ p, subFrom (treeOf l F) a = p := ⟨_, rfl⟩
  have hpa : ((toksFrom l 0)[a]'(by omega)).2.1 = p := by rw [← hp]; exact (hpos a _ hga).symm
  have hgb : (toksFrom l 0)[b - 1]? = some ((toksFrom l 0)[b - 1]'(by omega)) := List.getElem?_eq_getElem _
  obtain ⟨e, he⟩ : ∃ e, subTo (treeOf l F) b = e := ⟨_, rfl⟩
  have heb : ((toksFrom l 0)[b - 1]'(by omega)).2.2 = e := by
    rw [← he]
    unfold subTo
    rw [hTd, hgb]
  rw [hp, he]
  -- ahead of the end
  have hend := toks_end l l.length 0 (b - 1) _ (by omega) (by omega) hgb
  rw [show b - 1 + 1 = b by omega, heb] at hend
  have hrow := tree_row l F a (by omega)
  have hple : p ≤ l.length := by
    have := hrow.le
    rw [hpos a _ hga, hpa] at this
    exact this
  have hmono : ∀ j, a + j < b → p ≤ (treeOf l F).pos (a + j) ∧ (treeOf l F).pos (a + j) < e ∧ e ≤ l.length := fun j hj => by
    have hlow : p ≤ (treeOf l F).pos (a + j) := by
      cases j with
      | zero => rw [Nat.add_zero, hpos a _ hga, hpa]; exact Nat.le_refl _
      | succ j =>
        have := hrow.down (a + (j + 1)) (by omega)
        rw [hpos a _ hga, hpa] at this
        omega
    refine ⟨hlow, ?_⟩
    by_cases hbl : b < (toksFrom l 0).length
    · have hgb2 : (toksFrom l 0)[b]? = some ((toksFrom l 0)[b]'hbl) := List.getElem?_eq_getElem _
      have h1 := hend.1 _ hgb2
      have h2 := (tree_row l F b hbl).up (a + j) hj
      have h3 := (tree_row l F b hbl).le
      rw [hpos b _ hgb2, ← h1] at h2 h3
      exact ⟨h2, h3⟩
    · have h1 := hend.2 (List.getElem?_eq_none (by omega))
      have hgj : (toksFrom l 0)[a + j]? = some ((toksFrom l 0)[a + j]'(by omega)) := List.getElem?_eq_getElem _
      have := toksFrom_low l l.length 0 (by omega) _ (List.mem_of_getElem? hgj)
      rw [hpos _ _ hgj, h1]
      exact ⟨this.2, Nat.le_refl _⟩
  have h0 := hmono 0 (by omega)
  rw [Nat.add_zero, hpos a _ hga, hpa] at h0
  refine ⟨by omega, h0.2.2, ?_⟩
  -- the tokens behind p
  have hs1 := (toks_split l l.length 0 a _ (by omega) hga).1
  rw [hpa] at hs1
  have hdrop : toksFrom l p = (toksFrom l 0).drop a := by
    have h1 : (toksFrom l 0).take a ++ (toksFrom l 0).drop a = (toksFrom l 0).take a ++ toksFrom l p := (List.take_append_drop a _).trans hs1
    exact (List.append_cancel_left h1).symm
  have hd2 : toksFrom (l.drop p) 0 = ((toksFrom l 0).drop a).map fun t => (t.1, t.2.1 - p, t.2.2 - p) := by
    have := toks_drop l p l.length 0 (by omega)
    rw [Nat.add_zero, hdrop] at this
    exact this
  have hl1 : (l.drop p).length = l.length - p := List.length_drop
  have hT1 : ∀ j, (toksFrom (l.drop p) 0)[j]? = ((toksFrom l 0)[a + j]?).map fun t => (t.1, t.2.1 - p, t.2.2 - p) := fun j => by
    rw [hd2, List.getElem?_map, List.getElem?_drop]
  have hTl : (toksFrom (l.drop p) 0).length = (toksFrom l 0).length - a := by rw [hd2, List.length_map, List.length_drop]
  -- and ahead of e
  have hsp : toksFrom (l.drop p) 0 = (toksFrom (l.drop p) 0).take (b - a) ++ toksFrom (l.drop p) (e - p) := by
    by_cases hbl : b < (toksFrom l 0).length
    · have hgb2 : (toksFrom l 0)[b]? = some ((toksFrom l 0)[b]'hbl) := List.getElem?_eq_getElem _
      have h1 := hend.1 _ hgb2
      have h2 := hT1 (b - a)
      rw [show a + (b - a) = b by omega, hgb2] at h2
      have h3 := (toks_split (l.drop p) (l.drop p).length 0 (b - a) _ (by omega) h2).1
      have h4 : (((toksFrom l 0)[b]'hbl).1, ((toksFrom l 0)[b]'hbl).2.1 - p, ((toksFrom l 0)[b]'hbl).2.2 - p).2.1 = e - p := by rw [h1]
      rw [h4] at h3
      exact h3
    · have h1 := hend.2 (List.getElem?_eq_none (by omega))
      rw [toksFrom_end (l.drop p) (e - p) (by rw [hl1, h1]; exact Nat.le_refl _), List.append_nil, List.take_of_length_le (by omega)]
  have hkind : ∀ j, a + j < b → ∃ t, (toksFrom l 0)[a + j]? = some t ∧ t.1 ≠ 7 := fun j hj => by
    have hgj : (toksFrom l 0)[a + j]? = some ((toksFrom l 0)[a + j]'(by omega)) := List.getElem?_eq_getElem _
    refine ⟨_, hgj, ?_⟩
    have := h7 (a + j) (by omega) hj
    rwa [kind_get (X := treeOf l F) (i := a + j) hgj] at this
  have htk := toks_take (l.drop p) (e - p) (by rw [hl1]; omega) _ 0 (by omega) hsp (fun t ht => by
    obtain ⟨j, hj⟩ := List.getElem?_of_mem ht
    have hj2 : j < b - a := by
      have := (List.getElem?_eq_some_iff.1 hj).1
      rw [List.length_take] at this
      omega
    rw [List.getElem?_take, if_pos hj2, hT1] at hj
    obtain ⟨u, hu, h7'⟩ := hkind j (by omega)
    rw [hu] at hj
    have := Option.some.inj hj
    rw [← this]
    exact h7')
  have hYT : (treeOf ((l.drop p).take (e - p)) F).T = (toksFrom (l.drop p) 0).take (b - a) := htk
  have hYl : (treeOf ((l.drop p).take (e - p)) F).l = (l.drop p).take (e - p) := rfl
  have hYg : ∀ j, a + j < b → ∀ t, (toksFrom l 0)[a + j]? = some t → (treeOf ((l.drop p).take (e - p)) F).T[j]? = some (t.1, t.2.1 - p, t.2.2 - p) := fun j hj t ht => by
    rw [hYT, List.getElem?_take, if_pos (by omega), hT1, ht]
    rfl
  refine ⟨hb, by rw [hYT, List.length_take, hTl]; omega, rfl, fun j hj => ?_, fun j hj => ?_⟩
  · have hgj : (toksFrom l 0)[a + j]? = some ((toksFrom l 0)[a + j]'(by omega)) := List.getElem?_eq_getElem _
    rw [kind_get (hYg j hj _ hgj), kind_get (X := treeOf l F) (i := a + j) hgj]
  · have hgj : (toksFrom l 0)[a + j]? = some ((toksFrom l 0)[a + j]'(by omega)) := List.getElem?_eq_getElem _
    obtain ⟨m1, m2, m3⟩ := hmono j hj
    rw [hpos _ _ hgj] at m1 m2
    have h1 : (treeOf ((l.drop p).take (e - p)) F).pos j = ((toksFrom l 0)[a + j]'(by omega)).2.1 - p := by
      unfold TS.pos
      rw [hYg j hj _ hgj]
    rw [h1, hpos _ _ hgj, hYl]
    show _ = l.getD _ 0
    rw [List.getD, List.getD, List.getElem?_take, if_pos (by omega), List.getElem?_drop]
    congr 2
    omega

/-! which nodes are values -/
inductive Sole (X : TS) : Nd → Prop
  | val (n : Nd) (h : IsVal X n) (hk : ∀ m ∈ n.kids, Sole X m) : Sole X n
  | entry (a b : Nat) (key v : Nd) (hv : IsVal X v) (hks : Sole X key) (hvs : Sole X v) : Sole X (.mk 4 a b [key, v])
  | key (a b : Nat) : Sole X (.mk 2 a b [])
  | doc (b : Nat) (v : Nd) (hvs : Sole X v) : Sole X (.mk 6 0 b [v])
def SoleK (X : TS) (f : PS → PS × Nd) : Prop := ∀ s : PS, (f s).1.bad = 0 → s.i ≤ X.T.length → Sole X (f s).2
theorem many_sole {X : TS} {kid : PS → PS × Nd} (hk : SoleK X kid) (hc : Cov X kid) (hs : Stays fun s => (kid s).1) (e : UInt8) (he : e ≠ 0) : ∀ (f : Nat) (s : PS) (ks : List Nd), (manyS X kid e f s ks).1.bad = 0 → s.i ≤ X.T.length → (∀ n ∈ ks, Sole X n) → ∀ n ∈ (manyS X kid e f s ks).2, Sole X n
  | 0, s, ks, hb, hi, hks => (fail_not (X := X) (e := 4) (by decide) hb).elim
  | f + 1, s, ks, hb, hi, hks => by
    have hs0 : s.bad = 0 := good_of (f := fun u => (manyS X kid e (f + 1) u ks).1) (fun u hu => many_stays X kid e (f + 1) u ks hu) hb
    by_cases hm : (s.skip X).mark X = e
    · have e1 : manyS X kid e (f + 1) s ks = (s.skip X, ks) := by rw [manyS, if_pos (.inl hm)]
      rw [e1]
      exact hks
    · have hn : ¬ ((s.skip X).mark X = e ∨ s.bad ≠ 0) := fun h => h.elim hm (fun h => h hs0)
      have hgo := manyS_go (kid := kid) (ks := ks) (Nat.succ_le_succ (Nat.zero_le f)) hn
      rw [hgo] at hb ⊢
      rw [show f + 1 - 1 = f from rfl] at hb ⊢
      have hr0 : (roundS X e ((kid (s.skip X)).1.skip X)).bad = 0 := good_of (f := fun u => (manyS X kid e f u (ks ++ [(kid (s.skip X)).2])).1) (fun u hu => many_stays X kid e f u _ hu) hb
      have hk0 : (kid (s.skip X)).1.bad = 0 := by
        have : ((kid (s.skip X)).1.skip X).bad = 0 := by
          unfold roundS at hr0
          split at hr0
          · exact hr0
          · split at hr0
            · exact hr0
            · exact (fail_not (by decide) hr0).elim
        exact this
      have V := hc (s.skip X) hk0 ((skip_fine X s).2.1 hi)
      have S := hk (s.skip X) hk0 ((skip_fine X s).2.1 hi)
      have ht := (skip_fine X (kid (s.skip X)).1).2.1 V.le
      refine many_sole hk hc hs e he f _ _ hb ?_ (fun n hn => ?_)
      · unfold roundS at hr0 ⊢
        split at hr0
        · rename_i h44
          rw [if_pos h44]
          exact mark_lt h44 (by decide)
        · rename_i h44
          rw [if_neg h44]
          split at hr0
          · rename_i h5
            rw [if_pos h5]
            exact ht
          · exact (fail_not (by decide) hr0).elim
      · rcases List.mem_append.1 hn with hn | hn
        · exact hks n hn
        · obtain rfl : n = _ := by simpa using hn
          exact S
theorem entry_sole {X : TS} {r : Nat} (hr : r ≤ 20) (hv : SoleK X (valueS X r)) : SoleK X (entryS X (valueS X r)) := fun s hb hi => by
  unfold entryS at hb ⊢
  split at hb
  · rename_i h; exact absurd hb h
  · rename_i h
    rw [if_neg h]
    have hcb : (colonS X ((leafS X 2 s).1.skip X)).bad = 0 := by
      by_cases h0 : (colonS X ((leafS X 2 s).1.skip X)).bad = 0
      · exact h0
      · exact absurd h0 h
    obtain ⟨c1, c2, c3, c4⟩ := colon_good hcb
    rw [c1] at hb ⊢
    have hkey : ∃ a b, (leafS X 2 s).2 = .mk 2 a b [] := by
      unfold leafS
      split
      · exact ⟨_, _, rfl⟩
      · rename_i hl
        exfalso
        have : (leafS X 2 s).1.bad = 0 := c2
        unfold leafS at this
        rw [if_neg hl] at this
        exact fail_not (by decide) this
    obtain ⟨ka, kb, hk⟩ := hkey
    refine .entry _ _ _ _ ⟨r, ((leafS X 2 s).1.skip X).inc, hr, c2, c4, hb, rfl⟩ ?_ (hv _ hb c4)
    rw [hk]
    exact .key _ _
theorem value_sole (X : TS) : ∀ r, r ≤ 20 → SoleK X (valueS X r)
  | 0, hr => fun s hb hi => by
    have hs : s.bad = 0 := good_of (value_stays X 0) hb
    refine .val _ ⟨0, s, hr, hs, hi, hb, rfl⟩ (fun m hm => ?_)
    exfalso
    unfold valueS at hb
    split at hb
    · exact fail_not (by decide) hb
    · rename_i hbg
      unfold PS.begins at hbg
      simp only [Bool.or_eq_true, not_or] at hbg
      unfold leafS at hb
      rw [skip_skip, if_neg hbg.2] at hb
      exact fail_not (by decide) hb
  | r + 1, hr => fun s hb hi => by
    have hs : s.bad = 0 := good_of (value_stays X (r + 1)) hb
    have ih := value_sole X r (by omega)
    refine .val _ ⟨r + 1, s, hr, hs, hi, hb, rfl⟩ ?_
    unfold valueS at hb ⊢
    split at hb
    · rename_i h
      rw [if_pos h]
      exact many_sole (entry_sole (by omega) ih) (entry_cov (value_cov X r) (value_stays X r)) (entry_stays X _) 125 (by decide) _ _ _ hb (mark_lt h (by decide)) (fun n hn => by simp at hn)
    · rename_i h
      rw [if_neg h]
      split at hb
      · rename_i h2
        rw [if_pos h2]
        exact many_sole ih (value_cov X r) (value_stays X r) 93 (by decide) _ _ _ hb (mark_lt h2 (by decide)) (fun n hn => by simp at hn)
      · rename_i h2
        rw [if_neg h2]
        intro m hm
        exfalso
        unfold leafS at hm
        split at hm <;> simp [Nd.kids, Nd.none] at hm
theorem IsVal.kind {X : TS} {n : Nd} (h : IsVal X n) : n.k = 1 ∨ n.k = 3 ∨ n.k = 5 := by
  obtain ⟨r, s, hr, hs, hi, hb, rfl⟩ := h
  have hleaf : (leafS X 1 (s.skip X)).1.bad = 0 → (leafS X 1 (s.skip X)).2.k = 1 := fun hb => by
    unfold leafS at hb ⊢
    split at hb
    · rename_i h; rw [if_pos h]; rfl
    · exact (fail_not (by decide) hb).elim
  cases r with
  | zero =>
    unfold valueS at hb ⊢
    split at hb
    · exact (fail_not (by decide) hb).elim
    · rename_i h; rw [if_neg h]; exact .inl (hleaf hb)
  | succ r =>
    unfold valueS at hb ⊢
    split at hb
    · rename_i h; rw [if_pos h]; exact .inr (.inl rfl)
    · rename_i h
      rw [if_neg h]
      split at hb
      · rename_i h2; rw [if_pos h2]; exact .inr (.inr rfl)
      · rename_i h2; rw [if_neg h2]; exact .inl (hleaf hb)
theorem doc_sole (X : TS) (hb : (parseS X).bad = 0) : Sole X (.mk 6 0 X.T.length [(valueS X 20 ⟨0, 0, 0⟩).2]) := by
  refine .doc _ _ ?_
  unfold parseS endS at hb
  split at hb
  · exact (fail_not (by decide) hb).elim
  · exact value_sole X 20 (Nat.le_refl _) ⟨0, 0, 0⟩ hb (Nat.zero_le _)
theorem Sole.kid {X : TS} {n m : Nd} (h : Sole X n) (hm : m ∈ n.kids) : Sole X m := by
  cases h with
  | val _ h hk => exact hk m hm
  | entry a b key v hv hks hvs =>
    have : m = key ∨ m = v := by simpa [Nd.kids] using hm
    rcases this with rfl | rfl
    · exact hks
    · exact hvs
  | key a b => simp [Nd.kids] at hm
  | doc b v hvs =>
    obtain rfl : m = v := by simpa [Nd.kids] using hm
    exact hvs
/-- how it ends: an entry's value is one; what else is no key and no document is one -/
theorem Sole.cases4 {X : TS} {n : Nd} (h : Sole X n) (h4 : n.k = 4) : n.kids.length = 2 ∧ ∃ v, n.kids[1]? = some v ∧ IsVal X v := by
  cases h with
  | val _ h hk => have := h.kind; omega
  | entry a b key v hv hks hvs => exact ⟨rfl, v, rfl, hv⟩
  | key a b => exact absurd h4 (by decide : ¬ (2 : Int) = 4)
  | doc b v hvs => exact absurd h4 (by decide : ¬ (6 : Int) = 4)
theorem Sole.casesN {X : TS} {n : Nd} (h : Sole X n) (h4 : ¬ n.k = 4) (h2 : ¬ n.k = 2) (h6 : ¬ n.k = 6) : IsVal X n := by
  cases h with
  | val _ h hk => exact h
  | entry a b key v hv hks hvs => exact absurd rfl h4
  | key a b => exact absurd rfl h2
  | doc b v hvs => exact absurd rfl h6
end Go.Proofs.Ytfjeikijmconoaa
