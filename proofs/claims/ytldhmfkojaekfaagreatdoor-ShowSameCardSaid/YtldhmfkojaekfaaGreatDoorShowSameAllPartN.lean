/-
  The text of a good value tells the value, plainly; how long it is. No conditions.
  The contracts of float.point and float.digits. Condition: the library's table of powers lies in the world.
  The contract of float.Text. Conditions: 64 bits; the library's table of powers lies in the world.
-/
import Derived.Shelf.Unicode.PredsPay
import Derived.Lib.Repeat
import Derived.Lib.IndexBytes
import Derived.Test.YtldhmfkojaekfaaGreatDoorShowSameAllPartM
namespace Go.Proofs.YtldhmfkojaekfaaGreatDoor
open Go.RowKit Gx
set_option maxRecDepth 100000

def nullT : List UInt8 := [110, 117, 108, 108]
def trueT : List UInt8 := [116, 114, 117, 101]
def falseT : List UInt8 := [102, 97, 108, 115, 101]
open Classical in
/-- a fraction's text -/
noncomputable def fTxt (b : Nat) : List UInt8 := if h : ∃ t, TextIs b t then h.choose else []
theorem fTxt_is {b : Nat} {t : List UInt8} (h : TextIs b t) : fTxt b = t := by
  have h2 : ∃ t, TextIs b t := ⟨t, h⟩
  unfold fTxt
  rw [dif_pos h2]
  exact text_uniq h2.choose_spec h
open Classical in
/-- a text's code points -/
noncomputable def runesT (l : List UInt8) : List Int := if h : okText l then h.choose else []
theorem runesT_ok {l : List UInt8} (h : okText l) : (runesT l).all good = true ∧ l = encs (runesT l) := by
  unfold runesT
  rw [dif_pos h]
  exact h.choose_spec
noncomputable def quoteT (s : ByteArray) : List UInt8 := quoteOf (runesT s.data.toList)
noncomputable def leafT (v : V) : List UInt8 :=
  if v.k = 0 then nullT else if v.k = 1 then (if v.n = 1 then trueT else falseT) else if v.k = 2 then Lib.itoa v.n else if v.k = 3 then fTxt v.f.toNat else quoteT v.s
noncomputable def keyT (k : ByteArray) : List UInt8 := if bareOf k.data.toList = true then k.data.toList else quoteT k
/-- its numbers lie in their bounds, its fractions have texts -/
def Tx : Nat → V → Prop
  | 0, _ => True
  | d + 1, v => v.wf ∧ (v.k = 3 → ∃ t, TextIs v.f.toNat t) ∧ (∀ x ∈ v.l, Tx d x) ∧ ∀ x ∈ v.e, Tx d x.2
def Gt (d : Nat) (v : V) : Prop := Gd d v ∧ Tx d v
theorem gt_fam : Fam Gt where
  zero := fun _ h => h.1
  list := fun _ _ h hk => h.1.list hk
  table := fun _ _ h hk => h.1.table hk
  l := fun _ _ h x hx => ⟨h.1.l x hx, h.2.2.2.1 x hx⟩
  e := fun _ _ h x hx => ⟨h.1.e x hx, h.2.2.2.2 x hx⟩

theorem quote_tell {rs ts : List Int} (h1 : rs.all good = true) (h2 : ts.all good = true) {x y : List UInt8} (h : quoteOf rs ++ x = quoteOf ts ++ y) : rs = ts ∧ x = y := by
  have e1 := unquote_quote rs h1 x
  have e2 := unquote_quote ts h2 y
  rw [h, e2] at e1
  have e3 := (Prod.mk.inj (Option.some.inj e1)).1
  subst e3
  exact ⟨rfl, List.append_cancel_left h⟩
theorem quoteT_tell {a b : ByteArray} (h1 : okText a.data.toList) (h2 : okText b.data.toList) {x y : List UInt8} (h : quoteT a ++ x = quoteT b ++ y) : a = b ∧ x = y := by
  obtain ⟨a1, a2⟩ := runesT_ok h1
  obtain ⟨b1, b2⟩ := runesT_ok h2
  obtain ⟨h3, h4⟩ := quote_tell a1 b1 h
  refine ⟨ByteArray.ext (Array.toList_inj.1 ?_), h4⟩
  rw [a2, b2, h3]
theorem quoteT_cons (a : ByteArray) : ∃ t, quoteT a = 34 :: t := ⟨_, rfl⟩
/-- up to the first mark -/
def nostop (c : UInt8) : Bool := c != 44 && c != 93 && c != 125 && c != 10
theorem front_tell {P : UInt8 → Prop} : ∀ (A B r s : List UInt8), (∀ c ∈ A, ¬ P c) → (∀ c ∈ B, ¬ P c) → (∀ c, r.head? = some c → P c) → (∀ c, s.head? = some c → P c) → A ++ r = B ++ s → A = B ∧ r = s
  | [], [], r, s, _, _, _, _, h => ⟨rfl, h⟩
  | [], b :: B, r, s, _, hB, hr, _, h => by
    have h1 : r = b :: (B ++ s) := h
    exact (hB b (by simp) (hr b (by rw [h1]; rfl))).elim
  | a :: A, [], r, s, hA, _, _, hs, h => by
    have h1 : s = a :: (A ++ r) := h.symm
    exact (hA a (by simp) (hs a (by rw [h1]; rfl))).elim
  | a :: A, b :: B, r, s, hA, hB, hr, hs, h => by
    have h1 := List.cons.inj h
    obtain ⟨h2, h3⟩ := front_tell A B r s (fun c hc => hA c (by simp [hc])) (fun c hc => hB c (by simp [hc])) hr hs h1.2
    exact ⟨by rw [h1.1, h2], h3⟩
def StopC (c : UInt8) : Prop := c = 44 ∨ c = 93 ∨ c = 125 ∨ c = 10
theorem fCh_stop {c : UInt8} (h : fCh c = true) : ¬ StopC c ∧ c ≠ 34 ∧ c ≠ 117 ∧ c ≠ 116 ∧ c ≠ 108 ∧ c ≠ 91 ∧ c ≠ 123 := by
  refine ⟨?_, ?_, ?_, ?_, ?_, ?_, ?_⟩
  · rintro (rfl | rfl | rfl | rfl) <;> exact absurd h (by decide)
  all_goals (rintro rfl; exact absurd h (by decide))
/-- a leaf that is no text: its bytes -/
structure Plain (t : List UInt8) : Prop where
  stop : ∀ c ∈ t, ¬ StopC c
  head : ∃ c u, t = c :: u ∧ c ≠ 34 ∧ c ≠ 91 ∧ c ≠ 123 ∧ c ≠ 93 ∧ c ≠ 125
theorem Plain.of_f {t : List UInt8} (h : ∀ c ∈ t, fCh c = true) (h0 : t ≠ []) : Plain t := by
  refine ⟨fun c hc => (fCh_stop (h c hc)).1, ?_⟩
  cases t with
  | nil => exact absurd rfl h0
  | cons c u =>
    obtain ⟨h1, h2, -, -, -, h3, h4⟩ := fCh_stop (h c (by simp))
    exact ⟨c, u, rfl, h2, h3, h4, fun e => h1 (.inr (.inl e)), fun e => h1 (.inr (.inr (.inl e)))⟩
theorem nanBad_of {f : Int} (h0 : 0 ≤ f) (h1 : f ≤ 18446744073709551615) (h : nanBad f = false) : isNan f.toNat → f.toNat = 9221120237041090561 := by
  rintro ⟨g1, g2⟩
  obtain ⟨b, rfl⟩ : ∃ b : Nat, f = b := ⟨f.toNat, by omega⟩
  simp only [Int.toNat_natCast] at g1 g2 ⊢
  unfold nanBad at h
  have e1 := and_mask (b / 4503599627370496) 11 (by omega) 2047 (by decide) (by decide)
  have e2 := and_mask b 52 (by omega) 4503599627370495 (by decide) (by decide)
  have c1 : ((b : Int) / 4503599627370496) = ((b / 4503599627370496 : Nat) : Int) := by omega
  rw [c1, show ((2047 : Int)) = ((2047 : Nat) : Int) from rfl, e1, show ((4503599627370495 : Int)) = ((4503599627370495 : Nat) : Int) from rfl, e2] at h
  have d1 : (2 : Nat) ^ 11 = 2048 := by decide
  have d2 : (2 : Nat) ^ 52 = 4503599627370496 := by decide
  rw [d1, d2, g1] at h
  simp only [Bool.and_eq_false_iff, beq_eq_false_iff_ne, bne_eq_false_iff_eq] at h
  rcases h with (h | h) | h
  · exact absurd rfl h
  · omega
  · omega
/-- what a leaf that is no text is told as -/
theorem leaf_plain {d : Nat} {v : V} (h : Gt (d + 1) v) (h5 : v.k ≠ 5) (h6 : v.k ≠ 6) (h4 : v.k ≠ 4) : Plain (leafT v) := by
  have ok := h.1.ok
  have k0 := ok.k0
  have k6 := ok.k6
  unfold leafT
  by_cases c0 : v.k = 0
  · rw [if_pos c0]; exact ⟨by unfold StopC; decide, 110, [117, 108, 108], rfl, by decide, by decide, by decide, by decide, by decide⟩
  rw [if_neg c0]
  by_cases c1 : v.k = 1
  · rw [if_pos c1]
    split
    · exact ⟨by unfold StopC; decide, 116, [114, 117, 101], rfl, by decide, by decide, by decide, by decide, by decide⟩
    · exact ⟨by unfold StopC; decide, 102, [97, 108, 115, 101], rfl, by decide, by decide, by decide, by decide, by decide⟩
  rw [if_neg c1]
  by_cases c2 : v.k = 2
  · rw [if_pos c2]; exact Plain.of_f (fun c hc => iCh_f (itoa_ch _ c hc)) (itoa_ne _)
  rw [if_neg c2]
  have c3 : v.k = 3 := by omega
  rw [if_pos c3]
  obtain ⟨t, ht⟩ := h.2.2.1 c3
  rw [fTxt_is ht]
  obtain ⟨a1, ⟨c, a2, -⟩, -⟩ := text_ch ht
  exact Plain.of_f a1 (fun e => by rw [e] at a2; cases a2)
/-- leaves that are no texts: what they are told as tells them -/
theorem leaf_same {d : Nat} {v w : V} (h : Gt (d + 1) v) (g : Gt (d + 1) w) (h5 : v.k ≠ 5) (h6 : v.k ≠ 6) (h4 : v.k ≠ 4) (g5 : w.k ≠ 5) (g6 : w.k ≠ 6) (g4 : w.k ≠ 4) (e : leafT v = leafT w) : v = w := by
  have ok := h.1.ok
  have ok' := g.1.ok
  have k0 := ok.k0
  have k6 := ok.k6
  have k0' := ok'.k0
  have k6' := ok'.k6
  have hmem : ∀ (v : V), Gt (d + 1) v → v.k ≠ 5 → v.k ≠ 6 → v.k ≠ 4 →
      (v.k = 0 ∧ leafT v = nullT) ∨ (v.k = 1 ∧ v.n = 1 ∧ leafT v = trueT) ∨ (v.k = 1 ∧ v.n = 0 ∧ leafT v = falseT) ∨ (v.k = 2 ∧ leafT v = Lib.itoa v.n ∧ ∀ c ∈ leafT v, iCh c = true) ∨
      (v.k = 3 ∧ TextIs v.f.toNat (leafT v) ∧ (∀ c ∈ leafT v, fCh c = true) ∧ ∃ c ∈ leafT v, iCh c = false) := by
    intro v h h5 h6 h4
    have ok := h.1.ok
    have k0 := ok.k0
    have k6 := ok.k6
    unfold leafT
    by_cases c0 : v.k = 0
    · rw [if_pos c0]; exact .inl ⟨c0, rfl⟩
    rw [if_neg c0]
    by_cases c1 : v.k = 1
    · rw [if_pos c1]
      rcases ok.n1 c1 with n | n
      · rw [if_neg (by omega)]; exact .inr (.inr (.inl ⟨c1, n, rfl⟩))
      · rw [if_pos n]; exact .inr (.inl ⟨c1, n, rfl⟩)
    rw [if_neg c1]
    by_cases c2 : v.k = 2
    · rw [if_pos c2]; exact .inr (.inr (.inr (.inl ⟨c2, rfl, itoa_ch _⟩)))
    rw [if_neg c2]
    have c3 : v.k = 3 := by omega
    rw [if_pos c3]
    obtain ⟨t, ht⟩ := h.2.2.1 c3
    rw [fTxt_is ht]
    obtain ⟨a1, a2, -⟩ := text_ch ht
    exact .inr (.inr (.inr (.inr ⟨c3, ht, a1, a2⟩)))
  have fin : v.k = w.k → v.n = w.n → v.f = w.f → v = w := fun a b c => by
    refine V.ext' a b c ?_ ?_ ?_
    · rw [ok.s h4, ok'.s g4]
    · rw [ok.l h5, ok'.l g5]
    · rw [ok.e h6, ok'.e g6]
  have hn : ∀ c : UInt8, fCh c = false → iCh c = false := fun c hc => by
    cases hi : iCh c with
    | false => rfl
    | true => rw [iCh_f hi] at hc; cases hc
  rcases hmem v h h5 h6 h4 with ⟨a, p⟩ | ⟨a, n, p⟩ | ⟨a, n, p⟩ | ⟨a, p, q⟩ | ⟨a, p, q, q2⟩ <;> rcases hmem w g g5 g6 g4 with ⟨b, p'⟩ | ⟨b, n', p'⟩ | ⟨b, n', p'⟩ | ⟨b, p', q'⟩ | ⟨b, p', q', q2'⟩
  · exact fin (by omega) (by rw [ok.n (by omega) (by omega), ok'.n (by omega) (by omega)]) (by rw [ok.f (by omega), ok'.f (by omega)])
  · rw [p, p'] at e; exact absurd e (by decide)
  · rw [p, p'] at e; exact absurd e (by decide)
  · rw [← e, p] at q'; exact absurd (q' 117 (by decide)) (by decide)
  · rw [← e, p] at q'; exact absurd (q' 117 (by decide)) (by decide)
  · rw [p, p'] at e; exact absurd e (by decide)
  · exact fin (by omega) (by omega) (by rw [ok.f (by omega), ok'.f (by omega)])
  · rw [p, p'] at e; exact absurd e (by decide)
  · rw [← e, p] at q'; exact absurd (q' 116 (by decide)) (by decide)
  · rw [← e, p] at q'; exact absurd (q' 116 (by decide)) (by decide)
  · rw [p, p'] at e; exact absurd e (by decide)
  · rw [p, p'] at e; exact absurd e (by decide)
  · exact fin (by omega) (by omega) (by rw [ok.f (by omega), ok'.f (by omega)])
  · rw [← e, p] at q'; exact absurd (q' 108 (by decide)) (by decide)
  · rw [← e, p] at q'; exact absurd (q' 108 (by decide)) (by decide)
  · rw [e, p'] at q; exact absurd (q 117 (by decide)) (by decide)
  · rw [e, p'] at q; exact absurd (q 116 (by decide)) (by decide)
  · rw [e, p'] at q; exact absurd (q 108 (by decide)) (by decide)
  · exact fin (by omega) (itoa_tell (by rw [← p, ← p', e])) (by rw [ok.f (by omega), ok'.f (by omega)])
  · obtain ⟨c, hc, hc2⟩ := q2'
    rw [← e] at hc
    rw [q c hc] at hc2; cases hc2
  · rw [e, p'] at q; exact absurd (q 117 (by decide)) (by decide)
  · rw [e, p'] at q; exact absurd (q 116 (by decide)) (by decide)
  · rw [e, p'] at q; exact absurd (q 108 (by decide)) (by decide)
  · obtain ⟨c, hc, hc2⟩ := q2
    rw [e] at hc
    rw [q' c hc] at hc2; cases hc2
  · rw [e] at p
    have w1 := h.2.1
    have w2 := g.2.1
    have := text_tell (by have := w1.f1; have := w1.f0; omega) (by have := w2.f1; have := w2.f0; omega) p p' (nanBad_of w1.f0 w1.f1 ok.nan) (nanBad_of w2.f0 w2.f1 ok'.nan)
    exact fin (by omega) (by rw [ok.n (by omega) (by omega), ok'.n (by omega) (by omega)]) (by have := w1.f0; have := w2.f0; omega)
theorem leaf_text {d : Nat} {v : V} (h4 : v.k = 4) : leafT v = quoteT v.s := by
  unfold leafT
  rw [if_neg (by omega), if_neg (by omega), if_neg (by omega), if_neg (by omega)]
def KeyOk (k : ByteArray) : Prop := k.size ≤ 100 ∧ okText k.data.toList
theorem bare_stop {k : ByteArray} (h : bareOf k.data.toList = true) : (∀ c ∈ k.data.toList, c ≠ 58) ∧ ∃ c t, k.data.toList = c :: t ∧ c ≠ 34 ∧ c ≠ 93 ∧ c ≠ 125 := by
  have hb := bare_bytes h
  have hne : k.data.toList ≠ [] := by
    intro e; rw [e] at h; exact absurd h (by decide)
  have key : ∀ c : UInt8, (letterB c.toNat || moreB c.toNat) = true → c ≠ 58 ∧ c ≠ 34 ∧ c ≠ 93 ∧ c ≠ 125 := by
    intro c hc
    refine ⟨?_, ?_, ?_, ?_⟩ <;> (rintro rfl; exact absurd hc (by decide))
  refine ⟨fun c hc => (key c (hb c hc)).1, ?_⟩
  cases hk : k.data.toList with
  | nil => exact absurd hk hne
  | cons c t =>
    obtain ⟨-, a, b, d⟩ := key c (hb c (by rw [hk]; simp))
    exact ⟨c, t, rfl, a, b, d⟩
theorem tells (d : Nat) : Tells2 leafT keyT (Gt (d + 1)) KeyOk where
  leaf := by
    intro v w r s h g h5 h6 g5 g6 hr hs e
    by_cases h4 : v.k = 4
    · by_cases g4 : w.k = 4
      · rw [leaf_text (d := d) h4, leaf_text (d := d) g4] at e
        obtain ⟨e1, e2⟩ := quoteT_tell (ownV_zero h.1.1).2.2.2.2 (ownV_zero g.1.1).2.2.2.2 e
        have ok := h.1.ok
        have ok' := g.1.ok
        refine ⟨V.ext' (by omega) ?_ ?_ e1 ?_ ?_, e2⟩
        · rw [ok.n (by omega) (by omega), ok'.n (by omega) (by omega)]
        · rw [ok.f (by omega), ok'.f (by omega)]
        · rw [ok.l h5, ok'.l g5]
        · rw [ok.e h6, ok'.e g6]
      · exfalso
        rw [leaf_text (d := d) h4] at e
        obtain ⟨t, ht⟩ := quoteT_cons v.s
        obtain ⟨-, c, u, hc, hc2, -⟩ := leaf_plain g g5 g6 g4
        rw [ht, hc] at e
        exact hc2 (List.cons.inj e).1.symm
    · by_cases g4 : w.k = 4
      · exfalso
        rw [leaf_text (d := d) g4] at e
        obtain ⟨t, ht⟩ := quoteT_cons w.s
        obtain ⟨-, c, u, hc, hc2, -⟩ := leaf_plain h h5 h6 h4
        rw [ht, hc] at e
        exact hc2 (List.cons.inj e).1
      · obtain ⟨e1, e2⟩ := front_tell (P := StopC) _ _ r s (leaf_plain h h5 h6 h4).stop (leaf_plain g g5 g6 g4).stop hr hs e
        exact ⟨leaf_same h g h5 h6 h4 g5 g6 g4 e1, e2⟩
  head := by
    intro v h h5 h6
    by_cases h4 : v.k = 4
    · rw [leaf_text (d := d) h4]
      exact ⟨34, _, rfl, by decide, by decide, by decide, by decide⟩
    · obtain ⟨-, c, u, hc, -, a, b, e, f⟩ := leaf_plain h h5 h6 h4
      exact ⟨c, u, hc, e, f, a, b⟩
  key := by
    intro k m r s hk hm e
    have ex : ∀ a b : ByteArray, a.data.toList = b.data.toList → a = b := fun a b h => ByteArray.ext (Array.toList_inj.1 h)
    have h58 : ∀ (r : List UInt8), ∀ c, (58 :: r).head? = some c → c = 58 := fun r c h => (Option.some.inj h).symm
    unfold keyT at e
    by_cases hb : bareOf k.data.toList = true
    · rw [if_pos hb] at e
      by_cases gb : bareOf m.data.toList = true
      · rw [if_pos gb] at e
        obtain ⟨e1, e2⟩ := front_tell (P := fun c => c = 58) _ _ (58 :: r) (58 :: s) (bare_stop hb).1 (bare_stop gb).1 (h58 r) (h58 s) e
        exact ⟨ex _ _ e1, (List.cons.inj e2).2⟩
      · exfalso
        rw [if_neg gb] at e
        obtain ⟨t, ht⟩ := quoteT_cons m
        obtain ⟨c, u, hc, hc2, -⟩ := (bare_stop hb).2
        rw [ht, hc] at e
        exact hc2 (List.cons.inj e).1
    · rw [if_neg hb] at e
      by_cases gb : bareOf m.data.toList = true
      · exfalso
        rw [if_pos gb] at e
        obtain ⟨t, ht⟩ := quoteT_cons k
        obtain ⟨c, u, hc, hc2, -⟩ := (bare_stop gb).2
        rw [ht, hc] at e
        exact hc2 (List.cons.inj e).1.symm
      · rw [if_neg gb] at e
        obtain ⟨e1, e2⟩ := quoteT_tell hk.2 hm.2 e
        exact ⟨e1, (List.cons.inj e2).2⟩
  khead := by
    intro k hk
    unfold keyT
    by_cases hb : bareOf k.data.toList = true
    · rw [if_pos hb]
      obtain ⟨c, t, h1, -, h2, h3⟩ := (bare_stop hb).2
      exact ⟨c, t, h1, h2, h3⟩
    · rw [if_neg hb]
      exact ⟨34, _, rfl, by decide, by decide⟩
/-- one text, one value -/
theorem show_tell {many : Bool} {v w : V} (h : Gt 20 v) (g : Gt 20 w) (tl : List UInt8) (ht : tl = [] ∨ tl = [10]) (e : shwD leafT keyT many 20 0 v ++ tl = shwD leafT keyT many 20 0 w ++ tl) : v = w := by
  have hs : Stop tl := by
    rcases ht with rfl | rfl
    · intro c hc; cases hc
    · intro c hc; exact .inr (.inr (.inr (Option.some.inj hc).symm))
  exact (shw_tell gt_fam tells (fun d v hv x hx => keyE_short _ _ hv.1.2.1 x hx) 20 0 v w tl tl h g hs hs e).1
end Go.Proofs.YtldhmfkojaekfaaGreatDoor
namespace Go.Proofs.YtldhmfkojaekfaaGreatDoor
open Go.RowKit Gx
set_option maxRecDepth 100000

def FTab (w : World) : Prop := Lib.TabIs Tryz.prog w "internal/strconv.uint64pow10" .u64 Lib.pow10Tab
theorem FTab.keep {w w' : World} (h : FTab w) (hb : Below w.heap.size w w') : FTab w' := TabIs_below (g := 3) (by kernel_rfl) h hb
theorem below_growFl (w : World) (k : Nat) (os : Array Obj) : Below w.heap.size w (Go.Sort.grow (w.drewN k) os) := by
  refine ⟨rfl, rfl, rfl, ?_, fun i hi => ?_⟩
  · show w.heap.size ≤ (w.heap ++ os).size
    simp
  · show (w.heap ++ os)[i]? = w.heap[i]?
    rw [Array.getElem?_append_left hi]
theorem ret_strFl {a b : ByteArray} (h : a.data.toList = b.data.toList) : Ending.returned (.string a) = .returned (.string b) := by
  rw [show a = b from ByteArray.ext (Array.toList_inj.1 h)]

def StrPostFl (x : List UInt8) (w : World) (e : Ending) (w' : World) : Prop := e = .returned (.string ⟨x.toArray⟩) ∧ Below w.heap.size w w'
theorem repeat_one (j : Nat) : Lib.repeatL [48] j = List.replicate j 48 := by
  induction j with
  | zero => rfl
  | succ j ih => rw [Lib.repeatL, ih]; rfl
theorem rep_any (j : Nat) (hj : j ≤ 100000) (w : World) : Calls Tryz.prog 93 #[.string ⟨#[48]⟩, .int .i64 j] w (StrPostFl (List.replicate j 48) w) := by
  have h := Tryz.strings_Repeat ⟨#[48]⟩ j w (by omega) (by show 1 * j ≤ _; omega)
  rw [show (⟨#[48]⟩ : ByteArray).data.toList = [48] from rfl, repeat_one] at h
  exact h
theorem itoa_any (y : Int) (h0 : -100000 ≤ y) (h1 : y ≤ 100000) (w : World) (hT : FTab w) : Calls Tryz.prog 137 #[.int .i64 y] w (StrPostFl (Lib.itoa y) w) := by
  refine (Tryz.strconv_Itoa y (by omega) (by omega) w hT).mono ?_
  rintro e w2 ⟨rfl, k, os, rfl⟩
  exact ⟨rfl, below_growFl w k os⟩

set_option maxHeartbeats 2000000 in
theorem point_any (s : ByteArray) (k : Int) (w : World) (h1 : 1 ≤ s.size) (h2 : s.size ≤ 17) (h3 : -2000 ≤ k) (h4 : k ≤ 2000) (hT : FTab w) :
    Calls Tryz.prog 116 #[.string s, .int .i64 k] w (StrPostFl (pointOf s.data.toList k) w) := by
  have hL : s.data.toList.length = s.size := (Lib.size_eq s).symm
  have HT := Lib.hid hT
  clear hT
  by_cases c1 : -3 ≤ (s.size : Int) + k ∧ (s.size : Int) + k ≤ 0
  · obtain ⟨j, hj⟩ : ∃ j : Nat, (s.size : Int) + k = -(j : Int) := ⟨(-((s.size : Int) + k)).toNat, by omega⟩
    have e : pointOf s.data.toList k = [48, 46] ++ List.replicate j 48 ++ s.data.toList := by
      unfold pointOf
      rw [hL, if_pos c1, show (-((s.size : Int) + k)).toNat = j by omega]
    rw [e]
    have HL := Lib.hid hL
    have t1 : decide (-3 ≤ -(j : Int)) = true := decide_eq_true (by omega)
    have t2 : decide (-(j : Int) ≤ 0) = true := decide_eq_true (by omega)
    have HR := Lib.hid (fun w0 => rep_any j (by omega) w0)
    unfold StrPostFl at HR
    obtain ⟨j0, j1⟩ : 0 ≤ (j : Int) ∧ (j : Int) ≤ 3 := by omega
    clear e c1 hL
    go_enter Tryz.func116, Tryz.ntmps116
    go_wp2_with fail
    refine (HR.out w).mono ?_
    rintro e0 w1 ⟨rfl, hb⟩
    have B1 := Lib.hid hb
    clear hb
    go_wp2
    go_ret
    exact ⟨ret_strFl (by simp), B1.out⟩
  by_cases c2 : 0 < (s.size : Int) + k ∧ (s.size : Int) + k < s.size
  · obtain ⟨p, hp⟩ : ∃ p : Nat, (s.size : Int) + k = (p : Int) := ⟨((s.size : Int) + k).toNat, by omega⟩
    have e : pointOf s.data.toList k = s.data.toList.take p ++ 46 :: s.data.toList.drop p := by
      unfold pointOf
      rw [hL, if_neg c1, if_pos c2, show ((s.size : Int) + k).toNat = p by omega]
    rw [e]
    have HL := Lib.hid hL
    have t1 : decide (-3 ≤ (p : Int)) = true := decide_eq_true (by omega)
    have t2 : decide ((p : Int) ≤ 0) = false := decide_eq_false (by omega)
    have t3 : decide ((0 : Int) < (p : Int)) = true := decide_eq_true (by omega)
    have t3n : 0 < p := by omega
    have t4 : decide ((p : Int) < (s.size : Int)) = true := decide_eq_true (by omega)
    have t4n : p < s.size := by omega
    have t2n : p ≠ 0 := by omega
    obtain ⟨j0, j1⟩ : 0 ≤ (p : Int) ∧ (p : Int) ≤ (s.size : Int) := by omega
    clear e c1 c2 hL HT
    go_enter Tryz.func116, Tryz.ntmps116
    go_wp2_with fail
    go_quiet (fail)
    go_wp2
    go_ret
    have x1 : (s.extract 0 p).data.toList = s.data.toList.take p := by rw [Lib.extract_data, List.drop_zero, Nat.sub_zero]
    have x2 : (s.extract p s.size).data.toList = s.data.toList.drop p := Lib.extract_to_end s p
    exact ⟨ret_strFl (by simp only [ByteArray.data_append, Array.toList_append, x1, x2]; simp), Gx.drewN_below _ _ _⟩
  by_cases c3 : (s.size : Int) ≤ (s.size : Int) + k ∧ (s.size : Int) + k ≤ 17
  · obtain ⟨j, hj⟩ : ∃ j : Nat, k = (j : Int) := ⟨k.toNat, by omega⟩
    subst hj
    have e : pointOf s.data.toList (j : Int) = s.data.toList ++ List.replicate j 48 ++ [46, 48] := by
      unfold pointOf
      rw [hL, if_neg c1, if_neg c2, if_pos c3, show ((s.size : Int) + (j : Int) - (s.size : Int)).toNat = j by omega]
    rw [e]
    have HL := Lib.hid hL
    have HR := Lib.hid (fun w0 => rep_any j (by omega) w0)
    unfold StrPostFl at HR
    have t1 : decide (-3 ≤ (s.size : Int) + (j : Int)) = true := decide_eq_true (by omega)
    have t2 : decide ((s.size : Int) + (j : Int) ≤ 0) = false := decide_eq_false (by omega)
    have t3 : decide ((0 : Int) < (s.size : Int) + (j : Int)) = true := decide_eq_true (by omega)
    have t4 : decide ((s.size : Int) + (j : Int) < (s.size : Int)) = false := decide_eq_false (by omega)
    have t5 : decide ((s.size : Int) ≤ (s.size : Int) + (j : Int)) = true := decide_eq_true (by omega)
    have t6 : decide ((s.size : Int) + (j : Int) ≤ 17) = true := decide_eq_true (by omega)
    have ej : Hid ((s.size : Int) + (j : Int) - (s.size : Int) = (j : Int)) := by show _ = _; omega
    obtain ⟨j0, j1⟩ : 0 ≤ (j : Int) ∧ (s.size : Int) + (j : Int) ≤ 17 := by omega
    clear e c1 c2 c3 hL
    go_enter Tryz.func116, Tryz.ntmps116
    go_wp2_with fail
    try rw [ej.out]
    refine (HR.out w).mono ?_
    rintro e0 w1 ⟨rfl, hb⟩
    have B1 := Lib.hid hb
    clear hb
    go_wp2
    go_ret
    exact ⟨ret_strFl (by simp), B1.out⟩
  obtain ⟨p, hp⟩ : ∃ p : Int, (s.size : Int) + k = p := ⟨_, rfl⟩
  have t1 : decide (-3 ≤ p) = false ∨ (decide (-3 ≤ p) = true ∧ decide (p ≤ 0) = false) := by
    by_cases h : -3 ≤ p
    · exact .inr ⟨decide_eq_true h, decide_eq_false (by omega)⟩
    · exact .inl (decide_eq_false h)
  have t2 : decide (0 < p) = false ∨ (decide (0 < p) = true ∧ decide (p < (s.size : Int)) = false) := by
    by_cases h : 0 < p
    · exact .inr ⟨decide_eq_true h, decide_eq_false (by omega)⟩
    · exact .inl (decide_eq_false h)
  have t3 : decide ((s.size : Int) ≤ p) = false ∨ (decide ((s.size : Int) ≤ p) = true ∧ decide (p ≤ 17) = false) := by
    by_cases h : (s.size : Int) ≤ p
    · exact .inr ⟨decide_eq_true h, decide_eq_false (by omega)⟩
    · exact .inl (decide_eq_false h)
  obtain ⟨p0, p1⟩ : -2000 ≤ p ∧ p ≤ 2100 := by omega
  have HI := Lib.hid (itoa_any (p - 1) (by omega) (by omega) w HT.out)
  unfold StrPostFl at HI
  have hil := itoa_len (p - 1) (by omega) (by omega)
  obtain ⟨it, hit⟩ : ∃ it, it = Lib.itoa (p - 1) := ⟨_, rfl⟩
  rw [← hit] at HI hil
  have s1 : (1 : Int) ≤ (s.size : Int) := by omega
  by_cases c4 : 1 < s.size
  · have e : pointOf s.data.toList k = s.data.toList.take 1 ++ 46 :: s.data.toList.drop 1 ++ 101 :: it := by
      unfold pointOf
      rw [hL, if_neg c1, if_neg c2, if_neg c3, if_pos c4, hp, hit]
    rw [e]
    have HL := Lib.hid hL
    have c4d : decide ((1 : Int) < (s.size : Int)) = true := decide_eq_true (by omega)
    clear e c1 c2 c3 hL HT hit
    rcases t1 with t1 | ⟨t1, t1'⟩ <;> rcases t2 with t2 | ⟨t2, t2'⟩ <;> rcases t3 with t3 | ⟨t3, t3'⟩
    all_goals
      go_enter Tryz.func116, Tryz.ntmps116
      go_wp2_with fail
      refine HI.out.mono ?_
      rintro e0 w1 ⟨rfl, hb⟩
      have B1 := Lib.hid hb
      clear hb
      go_wp2
      go_ret
      have x1 : (s.extract 0 1).data.toList = s.data.toList.take 1 := by rw [Lib.extract_data, List.drop_zero, Nat.sub_zero]
      have x2 : (s.extract 1 s.size).data.toList = s.data.toList.drop 1 := Lib.extract_to_end s 1
      exact ⟨ret_strFl (by simp only [ByteArray.data_append, Array.toList_append, x1, x2]; simp), B1.out⟩
  · have e : pointOf s.data.toList k = s.data.toList ++ 101 :: it := by
      unfold pointOf
      rw [hL, if_neg c1, if_neg c2, if_neg c3, if_neg c4, hp, List.append_nil, List.take_of_length_le (by omega), hit]
    rw [e]
    have hx : s.extract 0 1 = s := by
      have : s.size = 1 := by omega
      rw [← this]; exact ByteArray.extract_zero_size
    have HX := Lib.hid hx
    have HL := Lib.hid hL
    have c4d : decide ((1 : Int) < (s.size : Int)) = false := decide_eq_false (by omega)
    clear e c1 c2 c3 hL HT hx hit
    rcases t1 with t1 | ⟨t1, t1'⟩ <;> rcases t2 with t2 | ⟨t2, t2'⟩ <;> rcases t3 with t3 | ⟨t3, t3'⟩
    all_goals
      go_enter Tryz.func116, Tryz.ntmps116
      go_wp2_with fail
      refine HI.out.mono ?_
      rintro e0 w1 ⟨rfl, hb⟩
      have B1 := Lib.hid hb
      clear hb
      go_wp2
      go_ret
      exact ⟨ret_strFl (by rw [HX.out]; simp), B1.out⟩
end Go.Proofs.YtldhmfkojaekfaaGreatDoor
namespace Go.Proofs.YtldhmfkojaekfaaGreatDoor
open Go.RowKit Gx
set_option maxRecDepth 100000

def TextPostF (b : Nat) (w : World) (e : Ending) (w' : World) : Prop := ∃ s : ByteArray, e = .returned (.string s) ∧ TextIs b s.data.toList ∧ s.size ≤ 100 ∧ Below w.heap.size w w'

set_option maxHeartbeats 4000000 in
theorem text_f (b : Nat) (w : World) (hb : b < 18446744073709551616) (hT : FTab w) : Calls Tryz.prog 96 #[.int .u64 b] w (TextPostF b w) := by
  have hsg : ∃ sg : ByteArray, sg.data.toList = sgOf b ∧ ((sg = ⟨#[45]⟩ ∧ decide ((9223372036854775808 : Int) ≤ (b : Int)) = true) ∨ (sg = ⟨#[]⟩ ∧ decide ((9223372036854775808 : Int) ≤ (b : Int)) = false)) := by
    unfold sgOf
    by_cases h : 9223372036854775808 ≤ b
    · exact ⟨⟨#[45]⟩, by rw [if_pos h], .inl ⟨rfl, decide_eq_true (by omega)⟩⟩
    · exact ⟨⟨#[]⟩, by rw [if_neg h], .inr ⟨rfl, decide_eq_false (by omega)⟩⟩
  obtain ⟨sg, hs0, hsg⟩ := hsg
  have HSG := Lib.hid hs0
  have hfin : ∀ (u : List UInt8) (s : ByteArray) w', s.data.toList = sg.data.toList ++ u → TextIs b (sgOf b ++ u) → u.length ≤ 30 → Below w.heap.size w w' → TextPostF b w (.returned (.string s)) w' := by
    intro u s w' h1 h2 h3 h4
    refine ⟨s, rfl, by rw [h1, hs0]; exact h2, ?_, h4⟩
    rw [Lib.size_eq, h1, List.length_append, ← Lib.size_eq]
    have : sg.size ≤ 1 := by rcases hsg with ⟨rfl, -⟩ | ⟨rfl, -⟩ <;> decide
    omega
  have hnan : b / 4503599627370496 % 2048 = 2047 → b % 4503599627370496 ≠ 0 → ∀ w', Below w.heap.size w w' → TextPostF b w (.returned (.string ⟨#[110, 97, 110]⟩)) w' := by
    intro h1 h2 w' h4
    exact ⟨_, rfl, .inl ⟨h1, h2, rfl⟩, by decide, h4⟩
  have HFIN := Lib.hid hfin
  have HNAN := Lib.hid hnan
  have hP := parts_anyFl b w hb
  have hS := fun w0 => short_any b w0 hb
  unfold PartsPostFl at hP
  unfold ShortPost at hS
  have HP := Lib.hid hP
  have HS := Lib.hid hS
  have HT := Lib.hid hT
  have hI : b / 4503599627370496 % 2048 = 2047 → b % 4503599627370496 = 0 → TextIs b (sgOf b ++ infTxt) := fun h1 h2 => .inr (.inl ⟨h1, h2, rfl⟩)
  have hZ : b / 4503599627370496 % 2048 ≠ 2047 → b % 9223372036854775808 = 0 → TextIs b (sgOf b ++ [48, 46, 48]) := fun h1 h2 => .inr (.inr (.inl ⟨h1, h2, rfl⟩))
  have HI := Lib.hid hI
  have HZ := Lib.hid hZ
  have hN : b / 4503599627370496 % 2048 ≠ 2047 → b % 9223372036854775808 ≠ 0 → ∀ (c m z : Nat) (kk : Int), ShortIs (b % 9223372036854775808) c kk → c = m * 10 ^ z → m % 10 ≠ 0 → m ≠ 0 → (decText m).length ≤ 17 → -500 ≤ kk + (z : Int) → kk + (z : Int) ≤ 500 → TextIs b (sgOf b ++ pointOf (decText m) (kk + (z : Int))) :=
    fun h1 h2 c m z kk a1 a2 a3 a4 a5 a6 a7 => .inr (.inr (.inr ⟨h1, h2, c, m, z, kk, a1, a2, a3, a4, a5, a6, a7, rfl⟩))
  have HN := Lib.hid hN
  generalize TextPostF b w = POST at *
  have hq1 : ∃ q, q = b / 4503599627370496 % 2048 := ⟨_, rfl⟩
  obtain ⟨q, hq⟩ := hq1
  obtain ⟨f, hf⟩ : ∃ f, f = b % 4503599627370496 := ⟨_, rfl⟩
  obtain ⟨B, hB⟩ : ∃ B, B = b % 9223372036854775808 := ⟨_, rfl⟩
  rw [← hq] at HP HS HNAN HI HZ HN
  rw [← hf] at HP HNAN HI
  rw [← hB] at HP HS HZ HN
  clear hfin hnan hP hS hT hI hZ hN hs0 hq hf hB
  rcases hsg with ⟨rfl, hsd⟩ | ⟨rfl, hsd⟩
  all_goals
    go_enter Tryz.func96, Tryz.ntmps96
    go_wp2_with fail
    refine HP.out.mono ?_
    rintro e0 w1 ⟨m, x, k, rfl, hcase, rfl⟩
    rcases hcase with ⟨h1, rfl, ⟨h2, rfl⟩ | ⟨h2, rfl⟩⟩ | ⟨h1, rfl, h3, E, rfl, h5, h6, h7⟩
    · have N := Lib.hid (fun s hs => HFIN.out infTxt s w hs (HI.out h1 h2) (by decide) (Below.refl _ _))
      clear h1 h2
      go_wp2_with fail
      try go_ret
      exact N.out _ rfl
    · have N := Lib.hid (HNAN.out h1 h2 w (Below.refl _ _))
      clear h1 h2
      go_wp2_with fail
      try go_ret
      exact N.out
    · rcases Nat.eq_zero_or_pos m with rfl | hm
      · have hz : B = 0 := by omega
        have N := Lib.hid (fun s hs => HFIN.out [48, 46, 48] s w hs (HZ.out h1 hz) (by decide) (Below.refl _ _))
        clear h1 hz h3 h5 h6 h7
        go_wp2_with fail
        try go_ret
        exact N.out _ rfl
      · have hz : B ≠ 0 := by omega
        have tm : ((m : Int) == 0) = false := by rw [beq_eq_false_iff_ne]; omega
        have tm2 : decide ((m : Int) = 0) = false := decide_eq_false (by omega)
        have H1 := Lib.hid h1
        have H2 := Lib.hid hz
        have HS2 := Lib.hid (HS.out w)
        clear h1 hz h3 h5 h6 h7
        go_wp2_with fail
        refine HS2.out.mono ?_
        rintro e0 w2 (⟨hbad, -, -⟩ | ⟨-, -, c, kk, hc, rfl, hb2⟩)
        · exfalso
          rcases hbad with h | h
          · exact H1.out h
          · exact H2.out h
        · have hc0 := shortIs_pos hc H2.out
          have hlen := shortIs_len hc
          obtain ⟨M, z, e1, e2, e3, e4⟩ := short_parts c hc0
          have hdl : (decText c).length ≤ 30 := dec_len c (by omega)
          have hM0 : M ≠ 0 := by intro h; rw [h, Nat.zero_mul] at e1; exact hc0 e1
          have hpos := text_pos M
          have hkk : kk + ((decText c).length : Int) - ((shortOf c).length : Int) = kk + (z : Int) := by rw [e3, e4]; omega
          have hkr : -420 ≤ kk ∧ kk ≤ 400 := by
            obtain ⟨N, D, top, n0, -, -, -, g1, g2, ⟨g3, -⟩, g4, rfl, -⟩ := hc
            omega
          rw [e3] at hlen
          have TI := HN.out H1.out H2.out c M z kk hc e1 e2 hM0 hlen.2 (by omega) (by omega)
          obtain ⟨s, hs⟩ : ∃ s : ByteArray, s = ⟨(shortOf c).toArray⟩ := ⟨_, rfl⟩
          have hsl : s.data.toList = decText M := by rw [hs, e3]
          have hsz : s.size = (decText M).length := by rw [Lib.size_eq, hsl]
          rw [hkk, ← hs]
          have B2 := Lib.hid hb2
          have T2 := HT.out.keep hb2
          have hPT := point_any s (kk + (z : Int)) w2 (by omega) (by omega) (by omega) (by omega) T2
          rw [hsl] at hPT
          have hpl := point_len (decText M) (kk + (z : Int)) hlen.2 (by omega) (by omega)
          generalize pointOf (decText M) (kk + (z : Int)) = PT at *
          have HPT := Lib.hid hPT
          unfold StrPostFl at HPT
          have HTI := Lib.hid TI
          generalize kk + (z : Int) = K at *
          clear hc hc0 e1 e2 e3 e4 hdl hM0 hpos hkk hkr TI hsl hsz hb2 T2 hPT hs hlen
          go_wp2_with fail
          refine HPT.out.mono ?_
          rintro e0 w3 ⟨rfl, hb3⟩
          have N := Lib.hid (fun s hs => HFIN.out PT s w3 hs HTI.out (by omega) (B2.out.trans (hb3.mono B2.out.size)))
          clear hb3
          go_wp2_with fail
          try go_ret
          exact N.out _ (by simp)
end Go.Proofs.YtldhmfkojaekfaaGreatDoor
