/-
  Plain law of TreeAlone: what was read as a value is read alone as one, its tokens so many less. No conditions.
-/
import Derived.Test.YtfjeikijmconoaaAloneBad
namespace Go.Proofs.Ytfjeikijmconoaa

/-! a reader never goes back -/
def Mono (f : PS → PS) : Prop := ∀ s, s.i ≤ (f s).i
theorem skip_mono (X : TS) (s : PS) : s.i ≤ (s.skip X).i := Nat.le_add_right _ _
theorem leaf_mono (X : TS) (k : Int) : Mono fun s => (leafS X k s).1 := fun s => by
  dsimp only
  unfold leafS
  split
  · exact Nat.le_trans (skip_mono X s) (Nat.le_succ _)
  · dsimp only
    rw [fail_i]
    exact skip_mono X s
theorem many_mono {X : TS} {kid : PS → PS × Nd} (hk : Mono fun s => (kid s).1) (e : UInt8) : ∀ (f : Nat) (s : PS) (ks : List Nd), s.i ≤ (manyS X kid e f s ks).1.i
  | 0, s, ks => by
    unfold manyS
    dsimp only
    rw [fail_i]
    exact Nat.le_refl _
  | f + 1, s, ks => by
    have h1 := skip_mono X s
    have h2 := hk (s.skip X)
    dsimp only at h2
    have h3 := skip_mono X (kid (s.skip X)).1
    unfold manyS
    split
    · exact h1
    · split
      · have := many_mono (X := X) hk e f ((kid (s.skip X)).1.skip X).inc (ks ++ [(kid (s.skip X)).2])
        have e1 : ((kid (s.skip X)).1.skip X).inc.i = ((kid (s.skip X)).1.skip X).i + 1 := rfl
        omega
      · split
        · have := many_mono (X := X) hk e f ((kid (s.skip X)).1.skip X) (ks ++ [(kid (s.skip X)).2])
          omega
        · have := many_mono (X := X) hk e f (((kid (s.skip X)).1.skip X).fail X 4) (ks ++ [(kid (s.skip X)).2])
          rw [fail_i] at this
          omega
theorem manyN_mono {X : TS} {kid : PS → PS × Nd} (hk : Mono fun s => (kid s).1) (k : Int) (e : UInt8) : Mono fun s => (manyN X k e kid s).1 := fun s => by
  have := many_mono (X := X) hk e X.F s.inc []
  have e1 : s.inc.i = s.i + 1 := rfl
  show s.i ≤ (manyS X kid e X.F s.inc []).1.i + 1
  omega
theorem entry_mono {X : TS} {val : PS → PS × Nd} (hv : Mono fun s => (val s).1) : Mono fun s => (entryS X val s).1 := fun s => by
  have h1 := leaf_mono X 2 s
  dsimp only at h1
  have h2 := skip_mono X (leafS X 2 s).1
  dsimp only
  rw [entry_eq]
  unfold entryT
  split
  · rw [colon_i]
    omega
  · have := hv (colonS X ((leafS X 2 s).1.skip X)).inc
    dsimp only at this
    have e1 : (colonS X ((leafS X 2 s).1.skip X)).inc.i = (colonS X ((leafS X 2 s).1.skip X)).i + 1 := rfl
    rw [colon_i] at e1
    omega
theorem value_mono (X : TS) : ∀ r, Mono fun s => (valueS X r s).1
  | 0 => fun s => by
    have h1 := skip_mono X s
    have h2 := leaf_mono X 1 (s.skip X)
    dsimp only at h2 ⊢
    unfold valueS
    split
    · dsimp only
      rw [fail_i]
      exact h1
    · omega
  | r + 1 => fun s => by
    have h1 := skip_mono X s
    have h2 := leaf_mono X 1 (s.skip X)
    have h3 := manyN_mono (X := X) (entry_mono (X := X) (value_mono X r)) 3 125 (s.skip X)
    have h4 := manyN_mono (X := X) (value_mono X r) 5 93 (s.skip X)
    dsimp only at h2 h3 h4 ⊢
    unfold valueS
    split
    · omega
    · split <;> omega

/-! some of the tokens alone -/
structure Sub (X : TS) (a b : Nat) (Y : TS) : Prop where
  le : b ≤ X.T.length
  len : Y.T.length = b - a
  F : Y.F = X.F
  kind : ∀ t, a + t < b → Y.kind t = X.kind (a + t)
  byte : ∀ t, a + t < b → Y.l.getD (Y.pos t) 0 = X.l.getD (X.pos (a + t)) 0
def Sim (a : Nat) (s s' : PS) : Prop := s.bad = 0 ∧ s'.bad = 0 ∧ s.i = a + s'.i
/-- the same node, its tokens so many less -/
inductive Mv (a b : Nat) : Nd → Nd → Prop
  | mk (k : Int) (x y x' y' : Nat) (kids kids' : List Nd) (hx : x = a + x') (hy : y = a + y') (hxb : x ≤ b) (hyb : y ≤ b) (hl : kids.length = kids'.length) (h : ∀ (i : Nat) (n n' : Nd), kids[i]? = some n → kids'[i]? = some n' → Mv a b n n') :
      Mv a b (.mk k x y kids) (.mk k x' y' kids')
def MvL (a b : Nat) (ks ks' : List Nd) : Prop := ks.length = ks'.length ∧ ∀ (i : Nat) (n n' : Nd), ks[i]? = some n → ks'[i]? = some n' → Mv a b n n'
theorem Mv.ends {a b : Nat} {n n' : Nd} (h : Mv a b n n') : n.a = a + n'.a ∧ n.b = a + n'.b ∧ n.a ≤ b ∧ n.b ≤ b := by
  cases h with
  | mk k x y x' y' kids kids' hx hy hxb hyb hl h => exact ⟨hx, hy, hxb, hyb⟩
theorem MvL.nil (a b : Nat) : MvL a b [] [] := ⟨rfl, fun i n n' h => by simp at h⟩
theorem MvL.push {a b : Nat} {ks ks' : List Nd} (h : MvL a b ks ks') {n n' : Nd} (hn : Mv a b n n') : MvL a b (ks ++ [n]) (ks' ++ [n']) := by
  refine ⟨by rw [List.length_append, List.length_append, h.1]; rfl, fun i m m' h1 h2 => ?_⟩
  by_cases hi : i < ks.length
  · rw [List.getElem?_append_left hi] at h1
    rw [List.getElem?_append_left (by rw [← h.1]; exact hi)] at h2
    exact h.2 i m m' h1 h2
  · rw [List.getElem?_append_right (by omega)] at h1
    rw [List.getElem?_append_right (by rw [← h.1]; omega), ← h.1] at h2
    cases hj : i - ks.length with
    | zero =>
      rw [hj] at h1 h2
      obtain rfl : n = m := by simpa using h1
      obtain rfl : n' = m' := by simpa using h2
      exact hn
    | succ j => rw [hj] at h1; simp at h1
theorem skipN_eq : ∀ (L : List (Int × Nat × Nat)) (m : Nat), (∀ j, j < m → ∃ t, L[j]? = some t ∧ solidK t.1 = false) → (∃ t, L[m]? = some t ∧ solidK t.1 = true) → skipN L = m
  | [], m, _, ⟨t, h, _⟩ => by simp at h
  | u :: L, 0, _, ⟨t, h, hs⟩ => by
    obtain rfl : u = t := by simpa using h
    unfold skipN
    rw [if_pos hs]
  | u :: L, m + 1, h, ⟨t, ht, hs⟩ => by
    obtain ⟨v, hv, hvs⟩ := h 0 (by omega)
    obtain rfl : u = v := by simpa using hv
    unfold skipN
    rw [if_neg (by rw [hvs]; decide), skipN_eq L m (fun j hj => h (j + 1) (by omega)) ⟨t, by simpa using ht, hs⟩]
theorem skipN_low : ∀ (L : List (Int × Nat × Nat)) (j : Nat), j < skipN L → ∃ t, L[j]? = some t ∧ solidK t.1 = false
  | [], j, h => by simp [skipN] at h
  | u :: L, j, h => by
    unfold skipN at h
    split at h
    · omega
    · rename_i hs
      cases j with
      | zero => exact ⟨u, rfl, by simpa using hs⟩
      | succ j => exact skipN_low L j (by omega)
theorem skipN_at : ∀ (L : List (Int × Nat × Nat)), skipN L < L.length → ∃ t, L[skipN L]? = some t ∧ solidK t.1 = true
  | [], h => by simp at h
  | u :: L, h => by
    by_cases hs : solidK u.1 = true
    · have e : skipN (u :: L) = 0 := by unfold skipN; rw [if_pos hs]
      rw [e]
      exact ⟨u, rfl, hs⟩
    · have e : skipN (u :: L) = skipN L + 1 := by rw [skipN, if_neg hs]
      rw [e] at h ⊢
      exact skipN_at L (by simpa using h)
theorem kind_get {X : TS} {i : Nat} {t : Int × Nat × Nat} (h : X.T[i]? = some t) : X.kind i = t.1 := by unfold TS.kind; rw [h]
section
variable {X Y : TS} {a b : Nat}
theorem skip_sub (H : Sub X a b Y) {s s' : PS} (h : Sim a s s') (hb : (s.skip X).i < b) : Sim a (s.skip X) (s'.skip Y) := by
  have hi : (s.skip X).i = s.i + skipN (X.T.drop s.i) := rfl
  have hle := H.le
  have hlen := H.len
  have h3 := h.2.2
  have get : ∀ j, s.i + j < b → ∀ t, (X.T.drop s.i)[j]? = some t → ∃ t', (Y.T.drop s'.i)[j]? = some t' ∧ t'.1 = t.1 := fun j hj t ht => by
    rw [List.getElem?_drop] at ht
    have h1 : s'.i + j < Y.T.length := by omega
    refine ⟨Y.T[s'.i + j], by rw [List.getElem?_drop, List.getElem?_eq_getElem h1], ?_⟩
    rw [← kind_get (List.getElem?_eq_getElem h1), ← kind_get ht, H.kind _ (by omega)]
    congr 1
    omega
  have key : skipN (Y.T.drop s'.i) = skipN (X.T.drop s.i) := by
    refine skipN_eq _ _ (fun j hj => ?_) ?_
    · obtain ⟨t, ht, hs⟩ := skipN_low _ j hj
      obtain ⟨t', ht', e⟩ := get j (by omega) t ht
      exact ⟨t', ht', by rw [e]; exact hs⟩
    · obtain ⟨t, ht, hs⟩ := skipN_at (X.T.drop s.i) (by rw [List.length_drop]; omega)
      obtain ⟨t', ht', e⟩ := get _ (by omega) t ht
      exact ⟨t', ht', by rw [e]; exact hs⟩
  refine ⟨h.1, h.2.1, ?_⟩
  show s.i + skipN (X.T.drop s.i) = a + (s'.i + skipN (Y.T.drop s'.i))
  omega
theorem mark_sub (H : Sub X a b Y) {s s' : PS} (h : Sim a s s') (hb : s.i < b) : s'.mark Y = s.mark X := by
  have h3 := h.2.2
  unfold PS.mark
  rw [h3, H.kind _ (by omega), H.byte _ (by omega)]
def KidSub (X : TS) (a b : Nat) (kid kid' : PS → PS × Nd) : Prop := ∀ s s', Sim a s s' → (kid s).1.bad = 0 → (kid s).1.i ≤ b → Sim a (kid s).1 (kid' s').1 ∧ Mv a b (kid s).2 (kid' s').2
theorem leaf_sub (H : Sub X a b Y) (k : Int) : KidSub X a b (leafS X k) (leafS Y k) := fun s s' h hb hi => by
  by_cases hl : isLeaf (X.kind (s.skip X).i) = true
  · have e : leafS X k s = ((s.skip X).inc, .mk k (s.skip X).i ((s.skip X).i + 1) []) := by unfold leafS; rw [if_pos hl]
    rw [e] at hb hi ⊢
    have hi' : (s.skip X).i < b := hi
    have hs := skip_sub H h hi'
    have h3 := hs.2.2
    have hk : Y.kind (s'.skip Y).i = X.kind (s.skip X).i := by rw [h3]; exact H.kind _ (by omega)
    have e' : leafS Y k s' = ((s'.skip Y).inc, .mk k (s'.skip Y).i ((s'.skip Y).i + 1) []) := by unfold leafS; rw [if_pos (by rw [hk]; exact hl)]
    rw [e']
    exact ⟨⟨hb, hs.2.1, by show (s.skip X).i + 1 = a + ((s'.skip Y).i + 1); omega⟩, .mk _ _ _ _ _ _ _ h3 (by omega) (by omega) hi' rfl (fun i n n' h => by simp at h)⟩
  · have e : leafS X k s = ((s.skip X).fail X 4, .none) := by unfold leafS; rw [if_neg hl]
    rw [e] at hb
    exact (fail_not (by decide) hb).elim
theorem round_sub (H : Sub X a b Y) {e : UInt8} (he : e ≠ 0) {t t' : PS} (h : Sim a t t') (hb : (roundS X e t).bad = 0) (hi : t.i < b) : Sim a (roundS X e t) (roundS Y e t') := by
  have hm := mark_sub H h hi
  have h3 := h.2.2
  unfold roundS at hb ⊢
  rw [hm]
  split at hb
  · rename_i h1
    rw [if_pos h1, if_pos h1]
    exact ⟨h.1, h.2.1, by show t.i + 1 = a + (t'.i + 1); omega⟩
  · rename_i h1
    rw [if_neg h1, if_neg h1]
    split at hb
    · rename_i h2
      rw [if_pos h2, if_pos h2]
      exact h
    · exact (fail_not (by decide) hb).elim
theorem round_mono (X : TS) (e : UInt8) (t : PS) : t.i ≤ (roundS X e t).i := by
  unfold roundS
  split
  · exact Nat.le_succ _
  · split
    · exact Nat.le_refl _
    · rw [fail_i]; exact Nat.le_refl _
theorem many_sub (H : Sub X a b Y) {kid kid' : PS → PS × Nd} (hk : KidSub X a b kid kid') (hst : Stays fun s => (kid s).1) (hmo : Mono fun s => (kid s).1) (e : UInt8) (he : e ≠ 0) : ∀ (f : Nat) (s s' : PS) (ks ks' : List Nd), Sim a s s' → MvL a b ks ks' →
    (manyS X kid e f s ks).1.bad = 0 → (manyS X kid e f s ks).1.i < b → Sim a (manyS X kid e f s ks).1 (manyS Y kid' e f s' ks').1 ∧ MvL a b (manyS X kid e f s ks).2 (manyS Y kid' e f s' ks').2
  | 0, s, s', ks, ks', h, hl, hb, hi => (fail_not (X := X) (e := 4) (by decide) hb).elim
  | f + 1, s, s', ks, ks', h, hl, hb, hi => by
    by_cases hm : (s.skip X).mark X = e
    · have e1 : manyS X kid e (f + 1) s ks = (s.skip X, ks) := by rw [manyS, if_pos (.inl hm)]
      rw [e1] at hi ⊢
      have hs := skip_sub H h hi
      have e2 : manyS Y kid' e (f + 1) s' ks' = (s'.skip Y, ks') := by rw [manyS, if_pos (.inl (by rw [mark_sub H hs hi]; exact hm))]
      rw [e2]
      exact ⟨hs, hl⟩
    · have hn : ¬ ((s.skip X).mark X = e ∨ s.bad ≠ 0) := fun h' => h'.elim hm (fun h' => h' h.1)
      have hgo := manyS_go (kid := kid) (ks := ks) (Nat.succ_le_succ (Nat.zero_le f)) hn
      rw [hgo] at hb hi ⊢
      rw [show f + 1 - 1 = f from rfl] at hb hi ⊢
      have hr0 : (roundS X e ((kid (s.skip X)).1.skip X)).bad = 0 := good_of (f := fun u => (manyS X kid e f u (ks ++ [(kid (s.skip X)).2])).1) (fun u hu => many_stays X kid e f u _ hu) hb
      have hk0 : (kid (s.skip X)).1.bad = 0 := by
        have : ((kid (s.skip X)).1.skip X).bad = 0 := by
          unfold roundS at hr0
          split at hr0
          · exact hr0
          · split at hr0
            · exact hr0
            · exact (fail_not (by decide) hr0).elim
        exact this
      have m1 := hmo (s.skip X)
      dsimp only at m1
      have m2 := skip_mono X (kid (s.skip X)).1
      have m3 := round_mono X e ((kid (s.skip X)).1.skip X)
      have m4 := many_mono (X := X) hmo e f (roundS X e ((kid (s.skip X)).1.skip X)) (ks ++ [(kid (s.skip X)).2])
      have hs := skip_sub H h (by omega)
      obtain ⟨hk1, hk2⟩ := hk _ _ hs hk0 (by omega)
      have ht := skip_sub H hk1 (by omega)
      have hrs := round_sub H he ht hr0 (by omega)
      have hn' : ¬ ((s'.skip Y).mark Y = e ∨ s'.bad ≠ 0) := fun h' => h'.elim (fun h' => hm (by rw [← mark_sub H hs (by omega)]; exact h')) (fun h' => h' h.2.1)
      have hgo' := manyS_go (kid := kid') (ks := ks') (Nat.succ_le_succ (Nat.zero_le f)) hn'
      rw [hgo']
      exact many_sub H hk hst hmo e he f _ _ _ _ hrs (hl.push hk2) hb hi
theorem manyN_sub (H : Sub X a b Y) {kid kid' : PS → PS × Nd} (hk : KidSub X a b kid kid') (hst : Stays fun s => (kid s).1) (hmo : Mono fun s => (kid s).1) (k : Int) (e : UInt8) (he : e ≠ 0) : KidSub X a b (manyN X k e kid) (manyN Y k e kid') := fun s s' h hb hi => by
  have h3 := h.2.2
  have hm := many_mono (X := X) hmo e X.F s.inc []
  have hsi : s.inc.i = s.i + 1 := rfl
  have hi' : (manyS X kid e X.F s.inc []).1.i + 1 ≤ b := hi
  obtain ⟨r1, r2⟩ := many_sub H hk hst hmo e he X.F s.inc s'.inc [] [] ⟨h.1, h.2.1, by show s.i + 1 = a + (s'.i + 1); omega⟩ (MvL.nil a b) hb hi'
  have r3 := r1.2.2
  unfold manyN
  rw [H.F]
  exact ⟨⟨r1.1, r1.2.1, by show (manyS X kid e X.F s.inc []).1.i + 1 = a + ((manyS Y kid' e X.F s'.inc []).1.i + 1); omega⟩, .mk _ _ _ _ _ _ _ h3 (by omega) (by omega) hi' r2.1 r2.2⟩
theorem entry_sub (H : Sub X a b Y) {val val' : PS → PS × Nd} (hv : KidSub X a b val val') (hst : Stays fun s => (val s).1) (hmo : Mono fun s => (val s).1) : KidSub X a b (entryS X val) (entryS Y val') := fun s s' h hb hi => by
  unfold entryS at hb hi
  split at hb
  · rename_i h1; exact absurd hb h1
  · rename_i h1
    rw [if_neg h1] at hi
    have hcb : (colonS X ((leafS X 2 s).1.skip X)).bad = 0 := by
      by_cases h0 : (colonS X ((leafS X 2 s).1.skip X)).bad = 0
      · exact h0
      · exact absurd h0 h1
    obtain ⟨c1, c2, c3, c4⟩ := colon_good hcb
    rw [c1] at hb hi hcb
    have m1 := skip_mono X (leafS X 2 s).1
    have m2 := hmo ((leafS X 2 s).1.skip X).inc
    dsimp only at m2
    have hinc : ((leafS X 2 s).1.skip X).inc.i = ((leafS X 2 s).1.skip X).i + 1 := rfl
    dsimp only at hi
    obtain ⟨k1, k2⟩ := leaf_sub H 2 s s' h c2 (by omega)
    have hu := skip_sub H k1 (by omega)
    have hm := mark_sub H hu (by omega)
    have h58 : ((leafS X 2 s).1.skip X).mark X = 58 ∨ ((leafS X 2 s).1.skip X).mark X = 61 := by
      by_cases g1 : ((leafS X 2 s).1.skip X).mark X = 58
      · exact .inl g1
      · by_cases g2 : ((leafS X 2 s).1.skip X).mark X = 61
        · exact .inr g2
        · exfalso
          have e1 : colonS X ((leafS X 2 s).1.skip X) = ((leafS X 2 s).1.skip X).fail X 4 := by unfold colonS; rw [if_pos ⟨c2, g1, g2⟩]
          rw [e1] at c1
          have := congrArg PS.bad c1
          unfold PS.fail at this
          rw [if_neg (fun g => g c2)] at this
          rw [c2] at this
          exact absurd this (by decide : ¬ (4 : Int) = 0)
    have c1' : colonS Y ((leafS Y 2 s').1.skip Y) = (leafS Y 2 s').1.skip Y := by
      unfold colonS
      rw [if_neg]
      rintro ⟨-, g1, g2⟩
      rw [hm] at g1 g2
      exact h58.elim g1 g2
    have hv3 := hu.2.2
    obtain ⟨v1, v2⟩ := hv ((leafS X 2 s).1.skip X).inc ((leafS Y 2 s').1.skip Y).inc ⟨hu.1, hu.2.1, by show _ + 1 = a + (_ + 1); omega⟩ hb hi
    have eX : entryS X val s = ((val ((leafS X 2 s).1.skip X).inc).1, .mk 4 (leafS X 2 s).2.a (val ((leafS X 2 s).1.skip X).inc).2.b [(leafS X 2 s).2, (val ((leafS X 2 s).1.skip X).inc).2]) := by
      unfold entryS
      rw [c1, if_neg (fun g => g c2)]
    have eY : entryS Y val' s' = ((val' ((leafS Y 2 s').1.skip Y).inc).1, .mk 4 (leafS Y 2 s').2.a (val' ((leafS Y 2 s').1.skip Y).inc).2.b [(leafS Y 2 s').2, (val' ((leafS Y 2 s').1.skip Y).inc).2]) := by
      unfold entryS
      rw [c1', if_neg (fun g => g hu.2.1)]
    rw [eX, eY]
    exact ⟨v1, .mk _ _ _ _ _ _ _ k2.ends.1 v2.ends.2.1 k2.ends.2.2.1 v2.ends.2.2.2 rfl (((MvL.nil a b).push k2).push v2).2⟩
theorem value_sub (H : Sub X a b Y) : ∀ r r', r ≤ r' → KidSub X a b (valueS X r) (valueS Y r')
  | 0, r', _ => fun s s' h hb hi => by
    unfold valueS at hb
    split at hb
    · exact (fail_not (by decide) hb).elim
    · rename_i hbg
      exfalso
      unfold PS.begins at hbg
      simp only [Bool.or_eq_true, not_or] at hbg
      unfold leafS at hb
      rw [skip_skip, if_neg hbg.2] at hb
      exact fail_not (by decide) hb
  | r + 1, 0, h => by omega
  | r + 1, r' + 1, hr => fun s s' h hb hi => by
    have ih := value_sub H r r' (by omega)
    have m3 := manyN_mono (X := X) (entry_mono (X := X) (value_mono X r)) 3 125 (s.skip X)
    have m4 := manyN_mono (X := X) (value_mono X r) 5 93 (s.skip X)
    have m5 := leaf_mono X 1 (s.skip X)
    dsimp only at m3 m4 m5
    by_cases h1 : (s.skip X).mark X = 123
    · have eX : valueS X (r + 1) s = manyN X 3 125 (entryS X (valueS X r)) (s.skip X) := by rw [valueS, if_pos h1]
      rw [eX] at hb hi ⊢
      have hlt := manyN_mono (X := X) (entry_mono (X := X) (value_mono X r)) 3 125 (s.skip X)
      have hlt2 : (s.skip X).i < b := by
        have := many_mono (X := X) (entry_mono (X := X) (value_mono X r)) 125 X.F (s.skip X).inc []
        have e1 : (s.skip X).inc.i = (s.skip X).i + 1 := rfl
        have e2 : (manyN X 3 125 (entryS X (valueS X r)) (s.skip X)).1.i = (manyS X (entryS X (valueS X r)) 125 X.F (s.skip X).inc []).1.i + 1 := rfl
        omega
      have hs := skip_sub H h hlt2
      have eY : valueS Y (r' + 1) s' = manyN Y 3 125 (entryS Y (valueS Y r')) (s'.skip Y) := by rw [valueS, if_pos (by rw [mark_sub H hs hlt2]; exact h1)]
      rw [eY]
      exact manyN_sub H (entry_sub H ih (value_stays X r) (value_mono X r)) (entry_stays X _) (entry_mono (X := X) (value_mono X r)) 3 125 (by decide) _ _ hs hb hi
    · by_cases h2 : (s.skip X).mark X = 91
      · have eX : valueS X (r + 1) s = manyN X 5 93 (valueS X r) (s.skip X) := by rw [valueS, if_neg h1, if_pos h2]
        rw [eX] at hb hi ⊢
        have hlt2 : (s.skip X).i < b := by
          have := many_mono (X := X) (value_mono X r) 93 X.F (s.skip X).inc []
          have e1 : (s.skip X).inc.i = (s.skip X).i + 1 := rfl
          have e2 : (manyN X 5 93 (valueS X r) (s.skip X)).1.i = (manyS X (valueS X r) 93 X.F (s.skip X).inc []).1.i + 1 := rfl
          omega
        have hs := skip_sub H h hlt2
        have hm := mark_sub H hs hlt2
        have eY : valueS Y (r' + 1) s' = manyN Y 5 93 (valueS Y r') (s'.skip Y) := by rw [valueS, if_neg (by rw [hm]; exact h1), if_pos (by rw [hm]; exact h2)]
        rw [eY]
        exact manyN_sub H ih (value_stays X r) (value_mono X r) 5 93 (by decide) _ _ hs hb hi
      · have eX : valueS X (r + 1) s = leafS X 1 (s.skip X) := by rw [valueS, if_neg h1, if_neg h2]
        rw [eX] at hb hi ⊢
        have hlt2 : (s.skip X).i < b := by
          by_cases hl : isLeaf (X.kind ((s.skip X).skip X).i) = true
          · have e1 : leafS X 1 (s.skip X) = (((s.skip X).skip X).inc, .mk 1 ((s.skip X).skip X).i (((s.skip X).skip X).i + 1) []) := by unfold leafS; rw [if_pos hl]
            rw [e1, skip_skip] at hi
            exact hi
          · unfold leafS at hb
            rw [if_neg hl] at hb
            exact (fail_not (by decide) hb).elim
        have hs := skip_sub H h hlt2
        have hm := mark_sub H hs hlt2
        have eY : valueS Y (r' + 1) s' = leafS Y 1 (s'.skip Y) := by rw [valueS, if_neg (by rw [hm]; exact h1), if_neg (by rw [hm]; exact h2)]
        rw [eY]
        exact leaf_sub H 1 _ _ hs hb hi
end
theorem value_skip (X : TS) (r : Nat) (s : PS) : valueS X r (s.skip X) = valueS X r s := by
  cases r <;> (unfold valueS; rw [skip_skip])
theorem value_a (X : TS) (r : Nat) (s : PS) (hb : (valueS X r s).1.bad = 0) : (valueS X r s).2.a = (s.skip X).i := by
  have hleaf : (leafS X 1 (s.skip X)).1.bad = 0 → (leafS X 1 (s.skip X)).2.a = (s.skip X).i := fun hb => by
    unfold leafS at hb ⊢
    split at hb
    · rename_i h; rw [if_pos h, skip_skip]; rfl
    · exact (fail_not (by decide) hb).elim
  cases r with
  | zero =>
    unfold valueS at hb ⊢
    split at hb
    · exact (fail_not (by decide) hb).elim
    · rename_i h; rw [if_neg h]; exact hleaf hb
  | succ r =>
    unfold valueS at hb ⊢
    split at hb
    · rename_i h; rw [if_pos h]; rfl
    · rename_i h
      rw [if_neg h]
      split at hb
      · rename_i h2; rw [if_pos h2]; rfl
      · rename_i h2; rw [if_neg h2]; exact hleaf hb
/-- n was read as a value, somewhere in a document -/
def IsVal (X : TS) (n : Nd) : Prop := ∃ r s, r ≤ 20 ∧ s.bad = 0 ∧ s.i ≤ X.T.length ∧ (valueS X r s).1.bad = 0 ∧ n = (valueS X r s).2
theorem IsVal.ends {X : TS} {n : Nd} (h : IsVal X n) : n.a < n.b ∧ n.b ≤ X.T.length ∧ ∀ t, n.a ≤ t → t < n.b → X.kind t ≠ 7 := by
  obtain ⟨r, s, hr, hs, hi, hb, rfl⟩ := h
  have V := value_cov X r s hb hi
  have hVb := V.b
  have hVle := V.le
  refine ⟨V.ab, by omega, fun t h1 h2 => ?_⟩
  rw [value_a X r s hb] at h1
  refine value_good X r (s.skip X) hs (by rw [value_skip]; exact hb) t h1 (by rw [value_skip]; omega) (by omega)
/-- THE LAW: alone it is a document of that one value -/
theorem val_alone {X Y : TS} {n : Nd} (h : IsVal X n) (H : Sub X n.a n.b Y) : (parseS Y).bad = 0 ∧ Mv n.a n.b n (valueS Y 20 ⟨0, 0, 0⟩).2 := by
  obtain ⟨r, s, hr, hs, hi, hb, rfl⟩ := h
  have V := value_cov X r s hb hi
  have hVb := V.b
  have ha := value_a X r s hb
  have hsk : Sim (valueS X r s).2.a (s.skip X) ⟨0, 0, 0⟩ := ⟨hs, rfl, by rw [ha]; rfl⟩
  obtain ⟨r1, r2⟩ := value_sub H r 20 hr (s.skip X) ⟨0, 0, 0⟩ hsk (by rw [value_skip]; exact hb) (by rw [value_skip]; omega)
  rw [value_skip] at r1 r2
  refine ⟨?_, r2⟩
  have hlen := H.len
  have h3 := r1.2.2
  unfold parseS endS
  rw [if_neg]
  · exact r1.2.1
  · rw [(skip_fine Y _).2.2 (by omega)]
    omega
end Go.Proofs.Ytfjeikijmconoaa
