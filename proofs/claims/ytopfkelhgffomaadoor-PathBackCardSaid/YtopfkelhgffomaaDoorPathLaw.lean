/-
  Plain law: paths, and their texts. No conditions.
-/
import Derived.Test.YtopfkelhgffomaaDoorEscLaw
import Derived.Test.YtopfkelhgffomaaDoorBareLaw
import Derived.Test.YtopfkelhgffomaaDoorDec
import Derived.Lib.ItoaNum
import Derived.Lib.ParseIntB
namespace Go.Proofs.YtopfkelhgffomaaDoor
open Go.RowKit Gx
set_option maxRecDepth 100000

/-- the runes of a text, whatever it is -/
def decF : Nat → List UInt8 → List Int
  | 0, _ => []
  | f + 1, l => if l = [] then [] else ((Lib.decodeL l).1 : Int) :: decF f (l.drop (Lib.decodeL l).2)
def decAll (l : List UInt8) : List Int := decF l.length l
theorem decF_nil (f : Nat) : decF f [] = [] := by cases f <;> simp [decF]
theorem decF_encs : ∀ (rs : List Int) (f : Nat), rs.all good = true → (encs rs).length ≤ f → decF f (encs rs) = rs
  | [], f, _, _ => decF_nil f
  | r :: rs, 0, hg, h => by
    rw [encs_cons, List.length_append] at h
    have := (enc_len r).1
    omega
  | r :: rs, f + 1, hg, h => by
    rw [List.all_cons, Bool.and_eq_true] at hg
    have h1 := enc_len r
    rw [encs_cons, List.length_append] at h
    unfold decF
    rw [if_neg (by
      intro e
      have := encs_nil e
      simp at this), encs_cons, decode_enc r hg.1, List.drop_left, decF_encs rs f hg.2 (by omega)]
    have h2 := hg.1
    rw [good_iff] at h2
    congr 1
    show ((r.toNat : Nat) : Int) = r
    omega
theorem decAll_encs (rs : List Int) (hg : rs.all good = true) : decAll (encs rs) = rs := decF_encs rs _ hg (Nat.le_refl _)

abbrev Step := List UInt8 × Int
/-- a key as it is told -/
def keyText (k : List UInt8) : List UInt8 := if bareOf k = true then k else quoteOf (decAll k)
def stepText (x : Step) : List UInt8 := if x.2 < 0 then 46 :: keyText x.1 else 91 :: (Lib.itoa x.2 ++ [93])
def pathText (p : List Step) : List UInt8 := 36 :: p.flatMap stepText
def StepOk (x : Step) : Prop := -1 ≤ x.2 ∧ (0 ≤ x.2 → x.1 = []) ∧ x.1.length ≤ 100 ∧ okText x.1
def PathOk (p : List Step) : Prop := p.length ≤ 20 ∧ ∀ x ∈ p, StepOk x

/-- where a sign stands first; the length: nowhere -/
def findB (f : UInt8 → Bool) : List UInt8 → Nat
  | [] => 0
  | c :: t => if f c then 0 else findB f t + 1
def isEnd (c : UInt8) : Bool := decide (c = 46) || decide (c = 91)
theorem findB_le (f : UInt8 → Bool) : ∀ l, findB f l ≤ l.length
  | [] => Nat.le_refl _
  | c :: t => by unfold findB; have := findB_le f t; split <;> simp <;> omega
theorem findB_skip (f : UInt8 → Bool) : ∀ (a y : List UInt8), (∀ c ∈ a, f c = false) → (∀ c, y.head? = some c → f c = true) → findB f (a ++ y) = a.length
  | [], [], _, _ => rfl
  | [], c :: t, _, h => by show findB f (c :: t) = 0; unfold findB; rw [if_pos (h c rfl)]
  | c :: a, y, h, hy => by
    show findB f (c :: (a ++ y)) = _
    unfold findB
    rw [h c (by simp), findB_skip f a y (fun c hc => h c (by simp [hc])) hy]
    simp
/-- a step at the front, and what stands behind it -/
def stepIndex (s : List UInt8) : Option (Step × List UInt8) :=
  match Lib.parseIntB 64 (s.take (findB (· == 93) s)) with
  | .ok n => if 0 ≤ n ∧ n ≤ 4611686018427387904 then some (([], n), s.drop (findB (· == 93) s + 1)) else none
  | _ => none
def stepKey (s : List UInt8) : Option (Step × List UInt8) :=
  if s.head? = some 34 then
    match unquote s with
    | some (rs, n) => some ((encs rs, -1), s.drop n)
    | none => none
  else if bareOf (s.take (findB isEnd s)) = true then some ((s.take (findB isEnd s), -1), s.drop (findB isEnd s)) else none
def readStep (s : List UInt8) : Option (Step × List UInt8) :=
  if s.head? = some 91 then stepIndex s.tail else if s.head? = some 46 then stepKey s.tail else none
def readSteps : Nat → List Step → List UInt8 → Option (List Step)
  | 0, _, _ => none
  | f + 1, out, s => if s = [] ∨ 20 < out.length then some out else
    match readStep s with
    | none => none
    | some (x, r) => readSteps f (out ++ [x]) r

def valF (a : Nat) (l : List UInt8) : Nat := l.foldl (fun a c => a * 10 + (c.toNat - 48)) a
theorem valF_ge : ∀ (l : List UInt8) (a : Nat), a ≤ valF a l
  | [], a => Nat.le_refl _
  | c :: l, a => by
    have := valF_ge l (a * 10 + (c.toNat - 48))
    show a ≤ valF (a * 10 + (c.toNat - 48)) l
    omega
theorem parseUintM_ok : ∀ (l : List UInt8) (a : Nat), (∀ c ∈ l, isDigit c = true) → valF a l ≤ 18446744073709551615 → Lib.parseUintM 18446744073709551615 a l = .ok (valF a l)
  | [], a, _, _ => rfl
  | c :: l, a, hd, h => by
    have h1 := hd c (by simp)
    unfold isDigit at h1
    simp only [Bool.and_eq_true, decide_eq_true_eq] at h1
    have h2 := valF_ge l (a * 10 + (c.toNat - 48))
    have h3 : valF a (c :: l) = valF (a * 10 + (c.toNat - 48)) l := rfl
    rw [h3] at h ⊢
    unfold Lib.parseUintM
    rw [if_pos ⟨h1.1, h1.2⟩, if_neg (by omega), if_neg (by omega)]
    exact parseUintM_ok l _ (fun c hc => hd c (by simp [hc])) h
theorem decDigits_text (u : Nat) : Lib.decDigits u = decText u := by
  induction u using Nat.strongRecOn with
  | ind u ih =>
    rw [Lib.decDigits]
    by_cases h : u < 10
    · rw [dif_pos h, text_small u h]; rfl
    · rw [dif_neg h, text_big u (by omega), ih (u / 10) (by omega)]; rfl
theorem itoa_text (n : Nat) : Lib.itoa (n : Int) = decText n := by
  unfold Lib.itoa
  rw [if_neg (by omega), decDigits_text, Int.toNat_natCast]
theorem parse_itoa (n : Nat) (h : n ≤ 4611686018427387904) : Lib.parseIntB 64 (decText n) = .ok (n : Int) := by
  have hd := (decOk_text n).2.1
  have hne := (decOk_text n).1
  have hv : valF 0 (decText n) = n := decVal_text n
  have e64 : (2 : Nat) ^ 64 - 1 = 18446744073709551615 := by decide
  have e63 : (2 : Nat) ^ (64 - 1) = 9223372036854775808 := by decide
  have hu : Lib.parseUintB 64 (decText n) = .ok n := by
    unfold Lib.parseUintB
    rw [if_neg hne, e64, parseUintM_ok _ _ hd (by rw [hv]; omega), hv]
  cases ht : decText n with
  | nil => exact absurd ht hne
  | cons c t =>
    have hc := hd c (by rw [ht]; simp)
    have n43 : c.toNat ≠ 43 := by intro h; unfold isDigit at hc; simp only [Bool.and_eq_true, decide_eq_true_eq] at hc; omega
    have n45 : c.toNat ≠ 45 := by intro h; unfold isDigit at hc; simp only [Bool.and_eq_true, decide_eq_true_eq] at hc; omega
    rw [ht] at hu
    unfold Lib.parseIntB
    simp only [n43, n45, or_self, if_false]
    rw [hu]
    simp only [not_false_eq_true, true_and, false_and, if_false, e63]
    rw [if_neg (by omega)]

theorem step_index (n : Nat) (hn : n ≤ 4611686018427387904) (y : List UInt8) : stepIndex (Lib.itoa (n : Int) ++ [93] ++ y) = some (([], (n : Int)), y) := by
  rw [itoa_text]
  have hd := (decOk_text n).2.1
  have hf : findB (· == 93) (decText n ++ [93] ++ y) = (decText n).length := by
    rw [List.append_assoc]
    refine findB_skip _ _ _ (fun c hc => ?_) (fun c hc => ?_)
    · have := hd c hc
      simp only [beq_eq_false_iff_ne]
      rintro rfl
      revert this; decide
    · have : c = 93 := by simpa using hc.symm
      subst this; rfl
  unfold stepIndex
  rw [hf, List.append_assoc, List.take_left, parse_itoa n hn]
  simp only
  rw [if_pos ⟨by omega, by omega⟩]
  have e : (decText n ++ ([93] ++ y)).drop ((decText n).length + 1) = y := by
    rw [← List.drop_drop, List.drop_left]; rfl
  rw [e]
theorem key_front {k : List UInt8} (h : bareOf k = true) : (∀ c ∈ k, isEnd c = false) ∧ k.head? ≠ some 34 ∧ k ≠ [] := by
  have hb := bare_bytes h
  refine ⟨fun c hc => ?_, ?_, ?_⟩
  · have := hb c hc
    unfold isEnd
    rw [decide_eq_false (by rintro rfl; revert this; decide), decide_eq_false (by rintro rfl; revert this; decide)]; rfl
  · intro hh
    cases k with
    | nil => cases hh
    | cons a t =>
      have ha : a = 34 := by simpa using hh
      have := hb a (by simp)
      rw [ha] at this
      revert this; decide
  · rintro rfl
    revert h; decide
theorem step_key (k : List UInt8) (hk : okText k) (y : List UInt8) (hy : ∀ c, y.head? = some c → isEnd c = true) : stepKey (keyText k ++ y) = some ((k, -1), y) := by
  unfold keyText
  by_cases hb : bareOf k = true
  · rw [if_pos hb]
    obtain ⟨h1, h2, h3⟩ := key_front hb
    have hf := findB_skip isEnd k y h1 hy
    have hh : (k ++ y).head? = k.head? := by
      cases k with
      | nil => exact absurd rfl h3
      | cons a t => rfl
    unfold stepKey
    rw [hh, if_neg h2, hf, List.take_left, if_pos hb, List.drop_left]
  · rw [if_neg hb]
    obtain ⟨rs, hg, rfl⟩ := hk
    rw [decAll_encs rs hg]
    unfold stepKey
    rw [if_pos (show (quoteOf rs ++ y).head? = some 34 from rfl), unquote_quote rs hg y]
    simp only
    rw [List.drop_left]
theorem step_read (x : Step) (hx : StepOk x) (hn : x.2 ≤ 4611686018427387904) (y : List UInt8) (hy : ∀ c, y.head? = some c → isEnd c = true) : readStep (stepText x ++ y) = some (x, y) := by
  obtain ⟨k, i⟩ := x
  obtain ⟨h1, h2, h3, h4⟩ := hx
  simp only at h1 h2 h3 h4 hn
  unfold stepText
  simp only
  by_cases hi : i < 0
  · obtain rfl : i = -1 := by omega
    rw [if_pos (by omega)]
    unfold readStep
    rw [if_neg (by simp), if_pos (by simp)]
    show stepKey (keyText k ++ y) = _
    exact step_key k h4 y hy
  · rw [if_neg hi]
    obtain rfl := h2 (by omega)
    obtain ⟨n, rfl⟩ := Int.eq_ofNat_of_zero_le (show 0 ≤ i by omega)
    unfold readStep
    rw [if_pos (by simp)]
    show stepIndex (Lib.itoa (n : Int) ++ [93] ++ y) = _
    exact step_index n (by omega) y
theorem steps_head (p : List Step) : ∀ c, (p.flatMap stepText).head? = some c → isEnd c = true := by
  intro c hc
  cases p with
  | nil => cases hc
  | cons x p =>
    rw [List.flatMap_cons] at hc
    unfold stepText at hc
    split at hc
    · have : c = 46 := by simpa using hc.symm
      subst this; rfl
    · have : c = 91 := by simpa using hc.symm
      subst this; rfl
/-- what was told is read -/
theorem steps_read : ∀ (p out : List Step) (f : Nat), (∀ x ∈ p, StepOk x ∧ x.2 ≤ 4611686018427387904) → out.length + p.length ≤ 20 → p.length < f → readSteps f out (p.flatMap stepText) = some (out ++ p)
  | [], out, f, _, _, hf => by
    obtain ⟨g, rfl⟩ : ∃ g, f = g + 1 := ⟨f - 1, by omega⟩
    simp [readSteps]
  | x :: p, out, f, h, hl, hf => by
    obtain ⟨g, rfl⟩ : ∃ g, f = g + 1 := ⟨f - 1, by omega⟩
    obtain ⟨h1, h2⟩ := h x (by simp)
    rw [List.length_cons] at hl hf
    have hne : (x :: p).flatMap stepText ≠ [] := by
      rw [List.flatMap_cons]
      unfold stepText
      split <;> simp
    unfold readSteps
    rw [if_neg (by rintro (h | h); exact hne h; omega), List.flatMap_cons, step_read x h1 h2 _ (steps_head p)]
    simp only
    rw [steps_read p (out ++ [x]) g (fun y hy => h y (by simp [hy])) (by simp; omega) (by omega)]
    simp
theorem path_read (p : List Step) (hp : PathOk p) (hn : ∀ x ∈ p, x.2 ≤ 4611686018427387904) : readSteps 22 [] (pathText p).tail = some p :=
  steps_read p [] 22 (fun x hx => ⟨hp.2 x hx, hn x hx⟩) (by simpa using hp.1) (by have := hp.1; omega)
end Go.Proofs.YtopfkelhgffomaaDoor
