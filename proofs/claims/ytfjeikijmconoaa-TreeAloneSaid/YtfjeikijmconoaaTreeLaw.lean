/-
  Plain law: the tree of a list of tokens; where it fails first, and what is ahead of that place. No conditions.
-/
import Derived.Test.YtfjeikijmconoaaTokLaw
namespace Go.Proofs.Ytfjeikijmconoaa

/-- a node: its kind, its tokens, its kids -/
inductive Nd where
  | mk (k : Int) (a b : Nat) (kids : List Nd)
def Nd.none : Nd := .mk 0 0 0 []
def Nd.a : Nd → Nat | .mk _ a _ _ => a
def Nd.b : Nd → Nat | .mk _ _ b _ => b
/-- a text, its tokens, and how many rounds a loop is given -/
structure TS where
  l : List UInt8
  T : List (Int × Nat × Nat)
  F : Nat
/-- a reader: the token that comes next; what failed first, and where -/
structure PS where
  i : Nat
  bad : Int
  wh : Nat
def solidK (k : Int) : Bool := decide (4 ≤ k) && decide (k ≤ 7)
def skipN : List (Int × Nat × Nat) → Nat
  | [] => 0
  | t :: r => if solidK t.1 then 0 else skipN r + 1
def PS.skip (X : TS) (s : PS) : PS := { s with i := s.i + skipN (X.T.drop s.i) }
def PS.inc (s : PS) : PS := { s with i := s.i + 1 }
def TS.kind (X : TS) (i : Nat) : Int := match X.T[i]? with | some t => t.1 | none => 0
def TS.pos (X : TS) (i : Nat) : Nat := match X.T[i]? with | some t => t.2.1 | none => X.l.length
def PS.mark (X : TS) (s : PS) : UInt8 := if X.kind s.i = 6 then X.l.getD (X.pos s.i) 0 else 0
def PS.fail (X : TS) (e : Int) (s : PS) : PS := if s.bad ≠ 0 then s else { s with bad := e, wh := X.pos s.i }
def isLeaf (k : Int) : Bool := decide (k = 4) || decide (k = 5)
def leafS (X : TS) (k : Int) (s0 : PS) : PS × Nd :=
  if isLeaf (X.kind (s0.skip X).i) then ((s0.skip X).inc, .mk k (s0.skip X).i ((s0.skip X).i + 1) []) else ((s0.skip X).fail X 4, .none)
def manyS (X : TS) (kid : PS → PS × Nd) (e : UInt8) : Nat → PS → List Nd → PS × List Nd
  | 0, s, ks => (s.fail X 4, ks)
  | f + 1, s, ks =>
    if (s.skip X).mark X = e ∨ s.bad ≠ 0 then (s.skip X, ks)
    else if ((kid (s.skip X)).1.skip X).mark X = 44 then manyS X kid e f ((kid (s.skip X)).1.skip X).inc (ks ++ [(kid (s.skip X)).2])
    else if ((kid (s.skip X)).1.skip X).mark X = e then manyS X kid e f ((kid (s.skip X)).1.skip X) (ks ++ [(kid (s.skip X)).2])
    else manyS X kid e f (((kid (s.skip X)).1.skip X).fail X 4) (ks ++ [(kid (s.skip X)).2])
def manyN (X : TS) (k : Int) (e : UInt8) (kid : PS → PS × Nd) (s : PS) : PS × Nd :=
  ((manyS X kid e X.F s.inc []).1.inc, .mk k s.i ((manyS X kid e X.F s.inc []).1.i + 1) (manyS X kid e X.F s.inc []).2)
def colonS (X : TS) (s : PS) : PS := if s.bad = 0 ∧ s.mark X ≠ 58 ∧ s.mark X ≠ 61 then s.fail X 4 else s
def entryS (X : TS) (val : PS → PS × Nd) (s0 : PS) : PS × Nd :=
  if (colonS X ((leafS X 2 s0).1.skip X)).bad ≠ 0 then (colonS X ((leafS X 2 s0).1.skip X), .none)
  else ((val (colonS X ((leafS X 2 s0).1.skip X)).inc).1, .mk 4 (leafS X 2 s0).2.a (val (colonS X ((leafS X 2 s0).1.skip X)).inc).2.b [(leafS X 2 s0).2, (val (colonS X ((leafS X 2 s0).1.skip X)).inc).2])
def PS.begins (X : TS) (s : PS) : Bool := decide (s.mark X = 123) || decide (s.mark X = 91) || isLeaf (X.kind s.i)
def valueS (X : TS) : Nat → PS → PS × Nd
  | 0, s => if (s.skip X).begins X then ((s.skip X).fail X 5, .none) else leafS X 1 (s.skip X)
  | r + 1, s =>
    if (s.skip X).mark X = 123 then manyN X 3 125 (entryS X (valueS X r)) (s.skip X)
    else if (s.skip X).mark X = 91 then manyN X 5 93 (valueS X r) (s.skip X)
    else leafS X 1 (s.skip X)
def endS (X : TS) (s : PS) : PS := if (s.skip X).i < X.T.length then (s.skip X).fail X 4 else s.skip X
def parseS (X : TS) : PS := endS X (valueS X 20 ⟨0, 0, 0⟩).1

/-! what failed stays -/
def Stays (f : PS → PS) : Prop := ∀ s, s.bad ≠ 0 → (f s).bad = s.bad ∧ (f s).wh = s.wh
theorem skip_stays (X : TS) (s : PS) : (s.skip X).bad = s.bad ∧ (s.skip X).wh = s.wh := ⟨rfl, rfl⟩
theorem fail_stays (X : TS) (e : Int) : Stays (PS.fail X e) := fun s h => by unfold PS.fail; rw [if_pos h]; exact ⟨rfl, rfl⟩
theorem leaf_stays (X : TS) (k : Int) : Stays fun s => (leafS X k s).1 := fun s h => by
  (try dsimp only)
  unfold leafS
  split
  · exact ⟨rfl, rfl⟩
  · exact fail_stays X 4 _ h
theorem many_stays (X : TS) (kid : PS → PS × Nd) (e : UInt8) : ∀ (f : Nat) (s : PS) (ks : List Nd), s.bad ≠ 0 → (manyS X kid e f s ks).1.bad = s.bad ∧ (manyS X kid e f s ks).1.wh = s.wh
  | 0, s, ks, h => fail_stays X 4 s h
  | f + 1, s, ks, h => by
    unfold manyS
    rw [if_pos (.inr h)]
    exact ⟨rfl, rfl⟩
theorem colon_stays (X : TS) : Stays (colonS X) := fun s h => by
  unfold colonS
  rw [if_neg (fun h2 => h h2.1)]
  exact ⟨rfl, rfl⟩
theorem entry_stays (X : TS) (val : PS → PS × Nd) : Stays fun s => (entryS X val s).1 := fun s h => by
  have h1 := leaf_stays X 2 s h
  have h2 : ((leafS X 2 s).1.skip X).bad ≠ 0 := by show (leafS X 2 s).1.bad ≠ 0; rw [h1.1]; exact h
  have h3 := colon_stays X _ h2
  (try dsimp only)
  unfold entryS
  rw [if_pos (by rw [h3.1]; exact h2)]
  exact ⟨h3.1.trans h1.1, h3.2.trans h1.2⟩
theorem value_stays (X : TS) : ∀ r, Stays fun s => (valueS X r s).1
  | 0 => fun s h => by
    (try dsimp only)
    unfold valueS
    split
    · exact fail_stays X 5 _ h
    · exact leaf_stays X 1 _ h
  | r + 1 => fun s h => by
    (try dsimp only)
    unfold valueS
    split
    · exact many_stays X _ _ _ _ _ h
    · split
      · exact many_stays X _ _ _ _ _ h
      · exact leaf_stays X 1 _ h

/-! past a place: it can't fail there -/
def Off (X : TS) (i : Nat) (s : PS) : Prop := (s.bad = 0 ∧ i < s.i) ∨ (s.bad ≠ 0 ∧ ¬ (s.bad = 4 ∧ s.wh = X.pos i))
def Passes (X : TS) (i : Nat) (f : PS → PS) : Prop := ∀ s, Off X i s → Off X i (f s)
variable {X : TS} {i : Nat}
theorem passes_of {f : PS → PS} (h1 : Stays f) (h2 : ∀ s, s.bad = 0 → i < s.i → Off X i (f s)) : Passes X i f := fun s h => by
  rcases h with ⟨h, h3⟩ | ⟨h, h3⟩
  · exact h2 s h h3
  · obtain ⟨g1, g2⟩ := h1 s h
    exact .inr ⟨by rw [g1]; exact h, by rw [g1, g2]; exact h3⟩
theorem skip_off : Passes X i (PS.skip X) := passes_of (fun s _ => ⟨rfl, rfl⟩) fun s h h2 => .inl ⟨h, Nat.lt_of_lt_of_le h2 (Nat.le_add_right _ _)⟩
theorem inc_off : Passes X i PS.inc := passes_of (fun s _ => ⟨rfl, rfl⟩) fun s h h2 => .inl ⟨h, Nat.lt_of_lt_of_le h2 (Nat.le_add_right _ _)⟩
/-- the places differ -/
def ApartT (X : TS) (i : Nat) : Prop := ∀ j, i < j → X.pos j ≠ X.pos i
theorem fail_off (ha : ApartT X i) (e : Int) (he : e ≠ 0) : Passes X i (PS.fail X e) := passes_of (fail_stays X e) fun s h h2 => by
  unfold PS.fail
  rw [if_neg (fun h3 => h3 h)]
  exact .inr ⟨he, fun h3 => ha _ h2 h3.2⟩
theorem leaf_off (ha : ApartT X i) (k : Int) : Passes X i fun s => (leafS X k s).1 := fun s h => by
  (try dsimp only)
  unfold leafS
  split
  · exact inc_off _ (skip_off _ h)
  · exact fail_off ha 4 (by decide) _ (skip_off _ h)
theorem leaf_off' (ha : ApartT X i) (k : Int) (s : PS) (h : s.bad = 0) (h2 : i < (s.skip X).i) : Off X i (leafS X k s).1 := by
  have h1 : Off X i (s.skip X) := .inl ⟨h, h2⟩
  (try dsimp only)
  unfold leafS
  split
  · exact inc_off _ h1
  · exact fail_off ha 4 (by decide) _ h1
theorem many_off (ha : ApartT X i) {kid : PS → PS × Nd} (hk : Passes X i fun s => (kid s).1) (e : UInt8) : ∀ (f : Nat) (s : PS) (ks : List Nd), Off X i s → Off X i (manyS X kid e f s ks).1
  | 0, s, ks, h => fail_off ha 4 (by decide) _ h
  | f + 1, s, ks, h => by
    have h1 := skip_off _ (hk _ (skip_off _ h))
    unfold manyS
    split
    · exact skip_off _ h
    · split
      · exact many_off ha hk e f _ _ (inc_off _ h1)
      · split
        · exact many_off ha hk e f _ _ h1
        · exact many_off ha hk e f _ _ (fail_off ha 4 (by decide) _ h1)
theorem colon_off (ha : ApartT X i) : Passes X i (colonS X) := fun s h => by
  unfold colonS
  split
  · exact fail_off ha 4 (by decide) _ h
  · exact h
theorem entry_off (ha : ApartT X i) {val : PS → PS × Nd} (hv : Passes X i fun s => (val s).1) : Passes X i fun s => (entryS X val s).1 := fun s h => by
  have h1 := colon_off ha _ (skip_off _ (leaf_off ha 2 _ h))
  (try dsimp only)
  unfold entryS
  split
  · exact h1
  · exact hv _ (inc_off _ h1)
theorem manyN_off (ha : ApartT X i) {kid : PS → PS × Nd} (hk : Passes X i fun s => (kid s).1) (k : Int) (e : UInt8) : Passes X i fun s => (manyN X k e kid s).1 := fun s h =>
  inc_off _ (many_off ha hk e _ _ _ (inc_off _ h))
theorem value_off (ha : ApartT X i) : ∀ r, Passes X i fun s => (valueS X r s).1
  | 0 => fun s h => by
    have h1 := skip_off _ h
    (try dsimp only)
    unfold valueS
    split
    · exact fail_off ha 5 (by decide) _ h1
    · exact leaf_off ha 1 _ h1
  | r + 1 => fun s h => by
    have h1 := skip_off _ h
    (try dsimp only)
    unfold valueS
    split
    · exact manyN_off ha (entry_off ha (value_off ha r)) _ _ _ h1
    · split
      · exact manyN_off ha (value_off ha r) _ _ _ h1
      · exact leaf_off ha 1 _ h1

/-! what is ahead of token i alone, side by side with the whole -/
/-- the text up to token i -/
def TS.upto (X : TS) (i : Nat) : TS := ⟨X.l.take (X.pos i), X.T.take i, X.F⟩
def Here (X : TS) (i : Nat) (s : PS) : Prop := s.bad = 4 ∧ s.wh = X.pos i
def Rel (X : TS) (i : Nat) (s t : PS) : Prop := (s = t ∧ s.bad = 0 ∧ s.i ≤ i) ∨ Off X i s ∨ (Here X i s ∧ t.bad = 4 ∧ t.wh = X.pos i)
def Goes (X : TS) (i : Nat) (f g : PS → PS) : Prop := ∀ s t, Rel X i s t → Rel X i (f s) (g t)
theorem goes_of {f g : PS → PS} (h1 : Stays f) (h2 : Stays g) (h3 : Passes X i f) (h4 : ∀ s, s.bad = 0 → s.i ≤ i → Rel X i (f s) (g s)) : Goes X i f g := fun s t h => by
  rcases h with ⟨rfl, h, h5⟩ | h | ⟨⟨h, h5⟩, h6, h7⟩
  · exact h4 s h h5
  · exact .inr (.inl (h3 s h))
  · obtain ⟨g1, g2⟩ := h1 s (by rw [h]; decide)
    obtain ⟨g3, g4⟩ := h2 t (by rw [h6]; decide)
    exact .inr (.inr ⟨⟨g1.trans h, g2.trans h5⟩, g3.trans h6, g4.trans h7⟩)
/-- what is asked of the tokens: they lie one behind the other -/
structure Row (X : TS) (i : Nat) : Prop where
  lt : i < X.T.length
  up : ∀ j, j < i → X.pos j < X.pos i
  down : ∀ j, i < j → X.pos i < X.pos j
  le : X.pos i ≤ X.l.length
theorem Row.apart (h : Row X i) : ApartT X i := fun j hj => Nat.ne_of_gt (h.down j hj)
theorem upto_pos (h : Row X i) (j : Nat) (hj : j ≤ i) : (X.upto i).pos j = X.pos j := by
  have hlt := h.lt
  have hle := h.le
  by_cases h1 : j < i
  · unfold TS.pos TS.upto
    simp only [List.getElem?_take]
    rw [if_pos h1, List.getElem?_eq_getElem (by omega)]
  · obtain rfl : j = i := by omega
    have e : (X.upto j).pos j = (X.l.take (X.pos j)).length := by
      conv => lhs; unfold TS.pos TS.upto
      simp only [List.getElem?_take]
      rw [if_neg h1]
    rw [e, List.length_take, Nat.min_eq_left hle]
theorem upto_kind (h : Row X i) (j : Nat) (hj : j < i) : (X.upto i).kind j = X.kind j := by
  unfold TS.kind TS.upto
  simp only [List.getElem?_take]
  rw [if_pos hj]
theorem upto_kind_end (h : Row X i) : (X.upto i).kind i = 0 := by
  unfold TS.kind TS.upto
  simp only [List.getElem?_take]
  rw [if_neg (by omega)]
theorem upto_mark (h : Row X i) (s : PS) (hj : s.i < i) : s.mark (X.upto i) = s.mark X := by
  unfold PS.mark
  rw [upto_kind h _ hj, upto_pos h _ (by omega)]
  have := h.up _ hj
  split
  · show (X.l.take (X.pos i)).getD _ 0 = _
    simp [List.getD, List.getElem?_take, this]
  · rfl
theorem upto_mark_end (h : Row X i) (s : PS) (hj : s.i = i) : s.mark (X.upto i) = 0 := by
  unfold PS.mark
  rw [hj, upto_kind_end h, if_neg (by decide)]
theorem skipN_take : ∀ (L : List (Int × Nat × Nat)) (m : Nat), skipN (L.take m) = min (skipN L) m
  | [], m => by simp [skipN]
  | t :: L, 0 => by simp [skipN]
  | t :: L, m + 1 => by
    rw [List.take_succ_cons]
    unfold skipN
    rw [skipN_take L m]
    split <;> omega
/-- a skip, side by side -/
theorem skip_same (h : Row X i) (s : PS) (hs : s.i ≤ i) : (s.skip (X.upto i) = s.skip X ∧ (s.skip X).i ≤ i) ∨ i < (s.skip X).i := by
  by_cases hj : (s.skip X).i ≤ i
  · refine .inl ⟨?_, hj⟩
    unfold PS.skip at hj ⊢
    simp only at hj
    show PS.mk (s.i + skipN ((X.T.take i).drop s.i)) _ _ = _
    rw [List.drop_take, skipN_take, Nat.min_eq_left (by omega)]
  · exact .inr (by omega)
theorem skip_goes (h : Row X i) : Goes X i (PS.skip X) (PS.skip (X.upto i)) := goes_of (fun s _ => ⟨rfl, rfl⟩) (fun s _ => ⟨rfl, rfl⟩) skip_off fun s h1 h2 => by
  rcases skip_same h s h2 with ⟨h3, h4⟩ | h3
  · exact .inl ⟨h3.symm, h1, h4⟩
  · exact .inr (.inl (.inl ⟨h1, h3⟩))
theorem inc_goes : Goes X i PS.inc PS.inc := goes_of (fun s _ => ⟨rfl, rfl⟩) (fun s _ => ⟨rfl, rfl⟩) inc_off fun s h1 h2 => by
  by_cases h3 : s.i + 1 ≤ i
  · exact .inl ⟨rfl, h1, h3⟩
  · exact .inr (.inl (.inl ⟨h1, by show i < s.i + 1; omega⟩))
theorem fail_goes (h : Row X i) (e : Int) (he : e ≠ 0) (s : PS) (h1 : s.bad = 0) (h2 : s.i ≤ i) : Rel X i (s.fail X e) (s.fail (X.upto i) e) := by
  have e1 : s.fail X e = ⟨s.i, e, X.pos s.i⟩ := by unfold PS.fail; rw [if_neg (fun h => h h1)]
  have e2 : s.fail (X.upto i) e = ⟨s.i, e, (X.upto i).pos s.i⟩ := by unfold PS.fail; rw [if_neg (fun h => h h1)]
  rw [e1, e2]
  by_cases h5 : e = 4 ∧ X.pos s.i = X.pos i
  · have h4 : s.i = i := by
      by_cases h6 : s.i < i
      · have := h.up s.i h6; omega
      · omega
    exact .inr (.inr ⟨h5, h5.1, by rw [h4]; exact upto_pos h i (Nat.le_refl _)⟩)
  · exact .inr (.inl (.inr ⟨he, h5⟩))
/-- at token i itself what is ahead alone has no token -/
theorem leaf_goes (h : Row X i) (k : Int) : Goes X i (fun s => (leafS X k s).1) (fun s => (leafS (X.upto i) k s).1) := goes_of (leaf_stays X k) (leaf_stays _ k) (leaf_off h.apart k) fun s h1 h2 => by
  rcases skip_same h s h2 with ⟨h3, h4⟩ | h3
  · have hf := fail_goes h 4 (by decide) (s.skip X) h1 h4
    simp only [leafS]
    rw [h3]
    by_cases h5 : (s.skip X).i < i
    · rw [upto_kind h _ h5]
      split
      · exact inc_goes _ _ (.inl ⟨rfl, h1, h4⟩)
      · exact hf
    · have h6 : (s.skip X).i = i := by omega
      rw [h6, upto_kind_end h, if_neg (show ¬ isLeaf 0 = true by decide)]
      split
      · exact .inr (.inl (.inl ⟨h1, by show i < (s.skip X).i + 1; omega⟩))
      · exact hf
  · exact .inr (.inl (leaf_off' h.apart k s h1 h3))
theorem many_at_end (ha : ApartT X i) {kx : PS → PS × Nd} (hkp : Passes X i fun s => (kx s).1) (e : UInt8) (f : Nat) (u : PS) (ks : List Nd) (h1 : u.bad = 0) (h2 : u.i = i) (h3 : u.mark X = e) : Off X i (manyS X kx e (f + 1) u ks).1.inc := by
  by_cases hs : (u.skip X).i = i
  · have hm : (u.skip X).mark X = e := by
      rw [← h3]
      unfold PS.mark
      rw [hs, h2]
    have e1 : (manyS X kx e (f + 1) u ks).1 = u.skip X := by unfold manyS; rw [if_pos (.inl hm)]
    rw [e1]
    exact .inl ⟨h1, by show i < (u.skip X).i + 1; omega⟩
  · have hle : u.i ≤ (u.skip X).i := Nat.le_add_right _ _
    have h8 : Off X i (u.skip X) := .inl ⟨h1, by omega⟩
    have h9 := skip_off _ (hkp _ h8)
    refine inc_off _ ?_
    unfold manyS
    split
    · exact h8
    · split
      · exact many_off ha hkp e f _ _ (inc_off _ h9)
      · split
        · exact many_off ha hkp e f _ _ h9
        · exact many_off ha hkp e f _ _ (fail_off ha 4 (by decide) _ h9)
theorem many_goes (h : Row X i) {kx ky : PS → PS × Nd} (hk : Goes X i (fun s => (kx s).1) (fun s => (ky s).1)) (hkx : Stays fun s => (kx s).1) (hkp : Passes X i fun s => (kx s).1) (e : UInt8) (he : e ≠ 0) : ∀ (f : Nat) (s t : PS) (ks ls : List Nd), Rel X i s t →
    Rel X i (manyS X kx e f s ks).1.inc (manyS (X.upto i) ky e f t ls).1.inc
  | 0, s, t, ks, ls, hr => by
    rcases hr with ⟨rfl, h1, h2⟩ | hr | ⟨⟨g0, g5⟩, g6, g7⟩
    · exact inc_goes _ _ (fail_goes h 4 (by decide) s h1 h2)
    · exact .inr (.inl (inc_off _ (fail_off h.apart 4 (by decide) _ hr)))
    · have fx := fail_stays X 4 s (by rw [g0]; decide)
      have fy := fail_stays (X.upto i) 4 t (by rw [g6]; decide)
      exact .inr (.inr ⟨⟨fx.1.trans g0, fx.2.trans g5⟩, fy.1.trans g6, fy.2.trans g7⟩)
  | f + 1, s, t, ks, ls, hr => by
    have hoff : ∀ (g : Nat) (u : PS) (ks ls : List Nd) (v : PS), Off X i u → Rel X i (manyS X kx e g u ks).1.inc v := fun g u ks ls v hu => .inr (.inl (inc_off _ (many_off h.apart hkp e g u ks hu)))
    rcases hr with ⟨rfl, h1, h2⟩ | hr | ⟨⟨hr, h5⟩, h6, h7⟩
    · rcases skip_same h s h2 with ⟨h3, h4⟩ | h3
      · -- the round
        have hr1 := skip_goes h _ _ (hk _ _ (.inl ⟨rfl, show (s.skip X).bad = 0 from h1, h4⟩))
        simp only at hr1
        have hY : (manyS (X.upto i) ky e (f + 1) s ls).1.inc = (manyS (X.upto i) ky e (f + 1) s ls).1.inc := rfl
        by_cases hm : (s.skip X).mark X = e
        · have e1 : (manyS X kx e (f + 1) s ks).1 = s.skip X := by unfold manyS; rw [if_pos (.inl hm)]
          rw [e1]
          by_cases h5 : (s.skip X).i < i
          · have e2 : (manyS (X.upto i) ky e (f + 1) s ls).1 = s.skip X := by
              unfold manyS
              rw [h3, if_pos (.inl (by rw [upto_mark h _ h5]; exact hm))]
            rw [e2]
            exact inc_goes _ _ (.inl ⟨rfl, h1, h4⟩)
          · exact .inr (.inl (.inl ⟨h1, by show i < (s.skip X).i + 1; omega⟩))
        · have hmY : ¬ ((s.skip (X.upto i)).mark (X.upto i) = e ∨ s.bad ≠ 0) := by
            rintro (h8 | h8)
            · rw [h3] at h8
              by_cases h5 : (s.skip X).i < i
              · rw [upto_mark h _ h5] at h8; exact hm h8
              · rw [upto_mark_end h _ (by omega)] at h8; exact he h8.symm
            · exact h8 h1
          have hmX : ¬ ((s.skip X).mark X = e ∨ s.bad ≠ 0) := by
            rintro (h8 | h8)
            · exact hm h8
            · exact h8 h1
          unfold manyS
          rw [if_neg hmX, if_neg hmY, h3]
          generalize (kx (s.skip X)).2 = nx
          generalize (ky (s.skip X)).2 = ny
          generalize PS.skip X (kx (s.skip X)).1 = u at hr1 ⊢
          generalize PS.skip (X.upto i) (ky (s.skip X)).1 = v at hr1 ⊢
          rcases hr1 with ⟨rfl, g1, g2⟩ | hr1 | ⟨⟨g0, g5⟩, g6, g7⟩
          · by_cases g3 : u.i < i
            · rw [upto_mark h _ g3]
              split
              · exact many_goes h hk hkx hkp e he f _ _ _ _ (inc_goes _ _ (.inl ⟨rfl, g1, g2⟩))
              · split
                · exact many_goes h hk hkx hkp e he f _ _ _ _ (.inl ⟨rfl, g1, g2⟩)
                · exact many_goes h hk hkx hkp e he f _ _ _ _ (fail_goes h 4 (by decide) u g1 g2)
            · have g4 : u.i = i := by omega
              have hz : ¬ (0 : UInt8) = 44 := by decide
              have hz2 : ¬ (0 : UInt8) = e := fun h => he h.symm
              rw [upto_mark_end h _ g4]
              simp only [if_neg hz, if_neg hz2]
              split
              · exact hoff _ _ _ [] _ (.inl ⟨g1, by show i < u.i + 1; omega⟩)
              · split
                · rename_i h8
                  cases f with
                  | zero =>
                    have fx : u.fail X 4 = ⟨u.i, 4, X.pos u.i⟩ := by unfold PS.fail; rw [if_neg (fun h => h g1)]
                    have fy : u.fail (X.upto i) 4 = ⟨u.i, 4, (X.upto i).pos u.i⟩ := by unfold PS.fail; rw [if_neg (fun h => h g1)]
                    have fz := fail_stays (X.upto i) 4 (u.fail (X.upto i) 4) (by rw [fy]; exact (by decide : (4 : Int) ≠ 0))
                    simp only [manyS]
                    refine .inr (.inr ⟨⟨?_, ?_⟩, ?_, ?_⟩)
                    · show (u.fail X 4).bad = 4; rw [fx]
                    · show (u.fail X 4).wh = _; rw [fx, g4]
                    · show ((u.fail (X.upto i) 4).fail (X.upto i) 4).bad = 4; rw [fz.1, fy]
                    · show ((u.fail (X.upto i) 4).fail (X.upto i) 4).wh = _; rw [fz.2, fy]; show (X.upto i).pos u.i = _; rw [g4, upto_pos h i (Nat.le_refl _)]
                  | succ f => exact .inr (.inl (many_at_end h.apart hkp e f u _ g1 g4 h8))
                · exact many_goes h hk hkx hkp e he f _ _ _ _ (fail_goes h 4 (by decide) u g1 g2)
          · refine .inr (.inl (inc_off _ ?_))
            split
            · exact many_off h.apart hkp e f _ _ (inc_off _ hr1)
            · split
              · exact many_off h.apart hkp e f _ _ hr1
              · exact many_off h.apart hkp e f _ _ (fail_off h.apart 4 (by decide) _ hr1)
          · -- failed within the round
            have q0 : u.bad ≠ 0 := by rw [g0]; decide
            have q1 : v.bad ≠ 0 := by rw [g6]; decide
            have qx : ∀ x : PS, x.bad = 4 → x.wh = X.pos i → ∀ ks, (manyS X kx e f x ks).1.inc.bad = 4 ∧ (manyS X kx e f x ks).1.inc.wh = X.pos i := fun x a b ks => by
              obtain ⟨c, d⟩ := many_stays X kx e f x ks (by rw [a]; decide)
              exact ⟨c.trans a, d.trans b⟩
            have qy : ∀ x : PS, x.bad = 4 → x.wh = X.pos i → ∀ ks, (manyS (X.upto i) ky e f x ks).1.inc.bad = 4 ∧ (manyS (X.upto i) ky e f x ks).1.inc.wh = X.pos i := fun x a b ks => by
              obtain ⟨c, d⟩ := many_stays (X.upto i) ky e f x ks (by rw [a]; decide)
              exact ⟨c.trans a, d.trans b⟩
            have fx := fail_stays X 4 u q0
            have fy := fail_stays (X.upto i) 4 v q1
            refine .inr (.inr ⟨?_, ?_⟩)
            · split
              · exact qx u.inc g0 g5 _
              · split
                · exact qx _ g0 g5 _
                · exact qx _ (fx.1.trans g0) (fx.2.trans g5) _
            · split
              · exact qy v.inc g6 g7 _
              · split
                · exact qy _ g6 g7 _
                · exact qy _ (fy.1.trans g6) (fy.2.trans g7) _
      · -- past token i
        refine .inr (.inl (inc_off _ ?_))
        have h8 : Off X i (s.skip X) := .inl ⟨h1, h3⟩
        have h9 := skip_off _ (hkp _ h8)
        unfold manyS
        split
        · exact h8
        · split
          · exact many_off h.apart hkp e f _ _ (inc_off _ h9)
          · split
            · exact many_off h.apart hkp e f _ _ h9
            · exact many_off h.apart hkp e f _ _ (fail_off h.apart 4 (by decide) _ h9)
    · exact hoff _ _ _ [] _ hr
    · obtain ⟨c, d⟩ := many_stays X kx e (f + 1) s ks (by rw [hr]; decide)
      obtain ⟨c2, d2⟩ := many_stays (X.upto i) ky e (f + 1) t ls (by rw [h6]; decide)
      exact .inr (.inr ⟨⟨c.trans hr, d.trans h5⟩, c2.trans h6, d2.trans h7⟩)
theorem manyN_goes (h : Row X i) {kx ky : PS → PS × Nd} (hk : Goes X i (fun s => (kx s).1) (fun s => (ky s).1)) (hkx : Stays fun s => (kx s).1) (hkp : Passes X i fun s => (kx s).1) (k l : Int) (e : UInt8) (he : e ≠ 0) : Goes X i (fun s => (manyN X k e kx s).1) (fun s => (manyN (X.upto i) l e ky s).1) := fun s t hr =>
  many_goes h hk hkx hkp e he X.F s.inc t.inc [] [] (inc_goes _ _ hr)
/-- an entry, behind its key -/
def entryT (X : TS) (val : PS → PS × Nd) (u : PS) : PS := if (colonS X u).bad ≠ 0 then colonS X u else (val (colonS X u).inc).1
theorem entry_eq (X : TS) (val : PS → PS × Nd) (s : PS) : (entryS X val s).1 = entryT X val ((leafS X 2 s).1.skip X) := by
  unfold entryS entryT
  split <;> rfl
theorem entryT_bad (X : TS) (val : PS → PS × Nd) (u : PS) (h : u.bad ≠ 0) : entryT X val u = u := by
  have h1 : colonS X u = u := by unfold colonS; rw [if_neg (fun h2 => h h2.1)]
  unfold entryT
  rw [h1, if_pos h]
theorem entry_goes (h : Row X i) {vx vy : PS → PS × Nd} (hv : Goes X i (fun s => (vx s).1) (fun s => (vy s).1)) (hvp : Passes X i fun s => (vx s).1) : Goes X i (fun s => (entryS X vx s).1) (fun s => (entryS (X.upto i) vy s).1) := fun s t hr => by
  have hr1 := skip_goes h _ _ (leaf_goes h 2 _ _ hr)
  simp only at hr1 ⊢
  rw [entry_eq, entry_eq]
  generalize PS.skip X (leafS X 2 s).1 = u at hr1 ⊢
  generalize PS.skip (X.upto i) (leafS (X.upto i) 2 t).1 = v at hr1 ⊢
  rcases hr1 with ⟨rfl, g1, g2⟩ | hr1 | ⟨⟨g0, g5⟩, g6, g7⟩
  · have hf := fail_goes h 4 (by decide) u g1 g2
    have hfb : ∀ Z : TS, (u.fail Z 4).bad ≠ 0 := fun Z => by unfold PS.fail; rw [if_neg (fun h => h g1)]; exact (by decide : (4 : Int) ≠ 0)
    by_cases hc : u.mark X ≠ 58 ∧ u.mark X ≠ 61
    · have e1 : colonS X u = u.fail X 4 := by unfold colonS; rw [if_pos ⟨g1, hc⟩]
      have e2 : colonS (X.upto i) u = u.fail (X.upto i) 4 := by
        unfold colonS
        by_cases g3 : u.i < i
        · rw [upto_mark h _ g3, if_pos ⟨g1, hc⟩]
        · rw [upto_mark_end h _ (by omega), if_pos ⟨g1, by decide, by decide⟩]
      unfold entryT
      rw [e1, e2, if_pos (hfb _), if_pos (hfb _)]
      exact hf
    · have e1 : colonS X u = u := by unfold colonS; rw [if_neg (fun h2 => hc h2.2)]
      have e3 : entryT X vx u = (vx u.inc).1 := by unfold entryT; rw [e1, if_neg (fun h => h g1)]
      rw [e3]
      by_cases g3 : u.i < i
      · have e2 : colonS (X.upto i) u = u := by unfold colonS; rw [upto_mark h _ g3, if_neg (fun h2 => hc h2.2)]
        have e4 : entryT (X.upto i) vy u = (vy u.inc).1 := by unfold entryT; rw [e2, if_neg (fun h => h g1)]
        rw [e4]
        exact hv _ _ (inc_goes _ _ (.inl ⟨rfl, g1, g2⟩))
      · exact .inr (.inl (hvp _ (.inl ⟨g1, by show i < u.i + 1; omega⟩)))
  · refine .inr (.inl ?_)
    have h1 := colon_off h.apart _ hr1
    unfold entryT
    split
    · exact h1
    · exact hvp _ (inc_off _ h1)
  · rw [entryT_bad X vx u (by rw [g0]; decide), entryT_bad (X.upto i) vy v (by rw [g6]; decide)]
    exact .inr (.inr ⟨⟨g0, g5⟩, g6, g7⟩)
theorem value_goes (h : Row X i) : ∀ r, Goes X i (fun s => (valueS X r s).1) (fun s => (valueS (X.upto i) r s).1)
  | 0 => goes_of (value_stays X 0) (value_stays _ 0) (value_off h.apart 0) fun s h1 h2 => by
    rcases skip_same h s h2 with ⟨h3, h4⟩ | h3
    · simp only [valueS]
      rw [h3]
      have hf := fail_goes h 5 (by decide) (s.skip X) h1 h4
      have hl := leaf_goes h 1 (s.skip X) (s.skip X) (.inl ⟨rfl, h1, h4⟩)
      by_cases h5 : (s.skip X).i < i
      · have e : (s.skip X).begins (X.upto i) = (s.skip X).begins X := by unfold PS.begins; rw [upto_mark h _ h5, upto_kind h _ h5]
        rw [e]
        split
        · exact hf
        · exact hl
      · have h6 : (s.skip X).i = i := by omega
        have e : (s.skip X).begins (X.upto i) = false := by unfold PS.begins; rw [upto_mark_end h _ h6, h6, upto_kind_end h]; rfl
        rw [e, if_neg (show ¬ false = true by decide)]
        split
        · refine .inr (.inl (.inr ?_))
          unfold PS.fail
          rw [if_neg (fun h => h h1)]
          exact ⟨(by decide : (5 : Int) ≠ 0), fun h => absurd h.1 (by decide : ¬ (5 : Int) = 4)⟩
        · exact hl
    · refine .inr (.inl ?_)
      simp only [valueS]
      have h8 : Off X i (s.skip X) := .inl ⟨h1, h3⟩
      split
      · exact fail_off h.apart 5 (by decide) _ h8
      · exact leaf_off h.apart 1 _ h8
  | r + 1 => goes_of (value_stays X (r + 1)) (value_stays _ (r + 1)) (value_off h.apart (r + 1)) fun s h1 h2 => by
    have ih := value_goes h r
    have ht := manyN_goes h (entry_goes h ih (value_off h.apart r)) (entry_stays X _) (entry_off h.apart (value_off h.apart r)) 3 3 125 (by decide)
    have hm := manyN_goes h ih (value_stays X r) (value_off h.apart r) 5 5 93 (by decide)
    have ot := manyN_off h.apart (entry_off h.apart (value_off h.apart r)) 3 125
    have om := manyN_off h.apart (value_off h.apart r) 5 93
    rcases skip_same h s h2 with ⟨h3, h4⟩ | h3
    · have hl := leaf_goes h 1 (s.skip X) (s.skip X) (.inl ⟨rfl, h1, h4⟩)
      simp only [valueS]
      rw [h3]
      by_cases h5 : (s.skip X).i < i
      · rw [upto_mark h _ h5]
        split
        · exact ht _ _ (.inl ⟨rfl, h1, h4⟩)
        · split
          · exact hm _ _ (.inl ⟨rfl, h1, h4⟩)
          · exact hl
      · have h6 : (s.skip X).i = i := by omega
        rw [upto_mark_end h _ h6, if_neg (show ¬ (0 : UInt8) = 123 by decide), if_neg (show ¬ (0 : UInt8) = 91 by decide)]
        have hi : Off X i (s.skip X).inc := .inl ⟨h1, by show i < (s.skip X).i + 1; omega⟩
        split
        · exact .inr (.inl (inc_off _ (many_off h.apart (entry_off h.apart (value_off h.apart r)) _ _ _ _ hi)))
        · split
          · exact .inr (.inl (inc_off _ (many_off h.apart (value_off h.apart r) _ _ _ _ hi)))
          · exact hl
    · refine .inr (.inl ?_)
      simp only [valueS]
      have h8 : Off X i (s.skip X) := .inl ⟨h1, h3⟩
      split
      · exact ot _ h8
      · split
        · exact om _ h8
        · exact leaf_off h.apart 1 _ h8
/-- where a text is no document, what is ahead of that place goes on to be one -/
theorem parse_first (h : Row X i) (hf : Here X i (parseS X)) : (parseS (X.upto i)).bad = 0 ∨ ((parseS (X.upto i)).bad = 4 ∧ (parseS (X.upto i)).wh = X.pos i) := by
  have hr := value_goes h 20 ⟨0, 0, 0⟩ ⟨0, 0, 0⟩ (.inl ⟨rfl, rfl, Nat.zero_le _⟩)
  simp only at hr
  unfold parseS at hf ⊢
  generalize (valueS X 20 ⟨0, 0, 0⟩).1 = u at hf hr
  generalize (valueS (X.upto i) 20 ⟨0, 0, 0⟩).1 = v at hr ⊢
  have hend : ∀ (Z : TS) (x : PS), x.bad ≠ 0 → (endS Z x).bad = x.bad ∧ (endS Z x).wh = x.wh := fun Z x hx => by
    unfold endS
    split
    · exact fail_stays Z 4 (x.skip Z) hx
    · exact ⟨rfl, rfl⟩
  have hoff : Off X i u → Off X i (endS X u) := fun hu => by
    unfold endS
    split
    · exact fail_off h.apart 4 (by decide) _ (skip_off _ hu)
    · exact skip_off _ hu
  rcases hr with ⟨rfl, g1, g2⟩ | hr | ⟨g0, g6, g7⟩
  · left
    rcases skip_same h u g2 with ⟨h3, h4⟩ | h3
    · -- whole: it failed at token i, and there is none here
      unfold endS at hf ⊢
      rw [h3]
      have hlen : (X.upto i).T.length = i := by
        show (X.T.take i).length = i
        rw [List.length_take]; have := h.lt; omega
      rw [hlen]
      by_cases h5 : (u.skip X).i < i
      · have h6 : (u.skip X).i < X.T.length := by have := h.lt; omega
        rw [if_pos h6] at hf
        have h7 : ((u.skip X).fail X 4).wh = X.pos (u.skip X).i := by
          unfold PS.fail
          rw [if_neg (fun h => h (show (u.skip X).bad = 0 from g1))]
        have := h.up _ h5
        have h8 := hf.2
        rw [h7] at h8
        omega
      · rw [if_neg h5]
        exact g1
    · exfalso
      have ho : Off X i (u.skip X) := .inl ⟨g1, h3⟩
      have h9 : Off X i (endS X u) := by
        unfold endS
        split
        · exact fail_off h.apart 4 (by decide) _ ho
        · exact ho
      rcases h9 with ⟨h9, -⟩ | ⟨-, h9⟩
      · rw [hf.1] at h9; exact absurd h9 (by decide)
      · exact h9 hf
  · exfalso
    rcases hoff hr with ⟨h9, -⟩ | ⟨-, h9⟩
    · rw [hf.1] at h9; exact absurd h9 (by decide)
    · exact h9 hf
  · right
    obtain ⟨e1, e2⟩ := hend (X.upto i) v (by rw [g6]; decide)
    exact ⟨e1.trans g6, e2.trans g7⟩
/-- what may fail: form, or depth -/
def BadOk (X : TS) (s : PS) : Prop := s.bad = 0 ∨ ((s.bad = 4 ∨ s.bad = 5) ∧ ∃ j, s.wh = X.pos j)
end Go.Proofs.Ytfjeikijmconoaa
