/-
  Plain law: which fraction a text tells; it is told as it was read. No conditions.
  Texts of fractions and of integers tell themselves, plainly. No conditions.
  Plain law: the digits of a number to base 16. No conditions.
  Plain law: texts between quotes. No conditions.
  Plain law: which keys are bare. No conditions.
  How many nodes a value has, plainly; a good value has no more than 2000. No conditions.
-/
import Derived.Lib.Strings
import Derived.Lib.Bytealg
import Derived.Test.YtldhmfkojaekfaaGreatDoorShowSameAllPartL
namespace Go.Proofs.YtldhmfkojaekfaaGreatDoor
open Go.RowKit Gx
set_option maxRecDepth 100000

def infTxt : List UInt8 := [105, 110, 102]
def nanTxt : List UInt8 := [110, 97, 110]
def signBit (b : Bool) : Nat := if b then 9223372036854775808 else 0
def NumIs (l : List UInt8) (x : Nat) (er : Int) (m : Bool) : Prop :=
  (litOf l = none ∧ x = 0 ∧ er ≠ 0) ∨
  (∃ d e b, litOf l = some (d, e) ∧ Hits (decVal (Lib.trimLeftB d 48)) (max (min e 1000) (-1000)) b ∧ ((b = 9218868437227405312 ∧ x = 0 ∧ er ≠ 0) ∨ (b < 9218868437227405312 ∧ x = b + signBit m ∧ er = 0)))
/-- what is read of a text -/
def ReadIs (l : List UInt8) (x : Nat) (er : Int) : Prop :=
  (80 < l.length ∧ x = 0 ∧ er ≠ 0) ∨ (l.length ≤ 80 ∧
   ((l = nanTxt ∧ x = 9221120237041090561 ∧ er = 0) ∨ (l ≠ nanTxt ∧ Lib.trimPrefix l [45] = infTxt ∧ x = 9218868437227405312 + signBit (Lib.hasPrefix l [45]) ∧ er = 0) ∨
    (l ≠ nanTxt ∧ Lib.trimPrefix l [45] ≠ infTxt ∧ NumIs (Lib.trimPrefix l [45]) x er (Lib.hasPrefix l [45]))))

theorem tw_digs : ∀ (l : List UInt8), ∀ b ∈ l.takeWhile isDigit, isDigit b = true
  | [], b, hb => by simp at hb
  | a :: l, b, hb => by
    cases ha : isDigit a with
    | false => simp [ha] at hb
    | true =>
      rw [List.takeWhile_cons, if_pos ha] at hb
      rcases List.mem_cons.1 hb with rfl | hb
      · exact ha
      · exact tw_digs l b hb
theorem frac_some {s f r : List UInt8} (h : fracOf s = some (f, r)) : (∀ b ∈ f, isDigit b = true) ∧ f.length ≤ s.length := by
  unfold fracOf at h
  split at h
  · split at h
    · cases h
    · obtain ⟨rfl, rfl⟩ := Prod.mk.inj (Option.some.inj h)
      exact ⟨tw_digs _, by have := (List.takeWhile_sublist isDigit (l := s.tail)).length_le; rw [List.length_tail] at this; omega⟩
  · obtain ⟨rfl, rfl⟩ := Prod.mk.inj (Option.some.inj h)
    exact ⟨fun b hb => by simp at hb, by simp⟩
theorem litOf_some {l d : List UInt8} {x : Int} (h : litOf l = some (d, x)) : (∀ b ∈ d, isDigit b = true) ∧ d ≠ [] ∧ d.length ≤ 2 * l.length := by
  unfold litOf at h
  split at h
  · cases h
  · rename_i hc
    have hne : l.takeWhile isDigit ≠ [] := fun h => hc (.inl h)
    have l1 := (List.takeWhile_sublist isDigit (l := l)).length_le
    have l2 := (List.dropWhile_sublist isDigit (l := l)).length_le
    have htw := tw_digs l
    obtain ⟨⟨f, r⟩, hf, he⟩ := Option.bind_eq_some_iff.1 h
    unfold litEnd at he
    obtain ⟨a, -, ha⟩ := Option.map_eq_some_iff.1 he
    obtain ⟨rfl, -⟩ := Prod.mk.inj ha
    obtain ⟨g1, g2⟩ := frac_some hf
    refine ⟨fun b hb => (List.mem_append.1 hb).elim (htw b) (g1 b), fun h => hne (List.append_eq_nil_iff.1 h).1, ?_⟩
    show (l.takeWhile isDigit ++ f).length ≤ _
    rw [List.length_append]; omega
/-- digits without noughts ahead: they are a number's text -/
theorem trim_ok {d : List UInt8} (h : ∀ b ∈ d, isDigit b = true) (hne : Lib.trimLeftB d 48 ≠ []) : decOk (Lib.trimLeftB d 48) := by
  have hsub : ∀ b ∈ Lib.trimLeftB d 48, isDigit b = true := fun b hb => h b ((List.dropWhile_sublist _).subset hb)
  refine ⟨hne, hsub, ?_⟩
  intro hh
  exfalso
  unfold Lib.trimLeftB at hh
  have := List.head?_dropWhile_not (fun x : UInt8 => x == 48) d
  rw [hh] at this
  simp at this
theorem trim_len (d : List UInt8) : (Lib.trimLeftB d 48).length ≤ d.length := (List.dropWhile_sublist _).length_le
theorem decVal_lt {l : List UInt8} (h : decOk l) : decVal l < 10 ^ l.length := by
  have h1 := dec_lt (decVal l)
  rwa [text_decVal l h] at h1

def sgOf (b : Nat) : List UInt8 := if 9223372036854775808 ≤ b then [45] else []
/-- what the fraction's text is -/
def TextIs (b : Nat) (t : List UInt8) : Prop :=
  (b / 4503599627370496 % 2048 = 2047 ∧ b % 4503599627370496 ≠ 0 ∧ t = nanTxt) ∨ (b / 4503599627370496 % 2048 = 2047 ∧ b % 4503599627370496 = 0 ∧ t = sgOf b ++ infTxt) ∨
  (b / 4503599627370496 % 2048 ≠ 2047 ∧ b % 9223372036854775808 = 0 ∧ t = sgOf b ++ [48, 46, 48]) ∨
  (b / 4503599627370496 % 2048 ≠ 2047 ∧ b % 9223372036854775808 ≠ 0 ∧ ∃ (c m z : Nat) (kk : Int), ShortIs (b % 9223372036854775808) c kk ∧ c = m * 10 ^ z ∧ m % 10 ≠ 0 ∧ m ≠ 0 ∧ (decText m).length ≤ 17 ∧ -500 ≤ kk + (z : Int) ∧ kk + (z : Int) ≤ 500 ∧ t = sgOf b ++ pointOf (decText m) (kk + (z : Int)))

theorem same_num (m z y : Nat) (kk k : Int) (hk : k = kk + (z : Int)) : m * 10 ^ y * tenUp (k - (y : Int)) * tenDn kk = m * 10 ^ z * tenUp kk * tenDn (k - (y : Int)) := by
  have h1 := ten_shift k z
  have h2 := ten_shift k y
  rw [show k - (z : Int) = kk by omega] at h1
  have hp := tenDn_pos k
  generalize tenUp k = A at *
  generalize tenDn kk = B at *
  generalize tenUp kk = C at *
  generalize tenDn k = D at *
  generalize tenDn (k - (y : Int)) = E at *
  generalize tenUp (k - (y : Int)) = F at *
  generalize 10 ^ z = P at *
  generalize 10 ^ y = Q at *
  apply Nat.eq_of_mul_eq_mul_right hp
  calc m * Q * F * B * D = m * B * (Q * F * D) := by ac_rfl
    _ = m * B * (A * E) := by rw [h2]
    _ = m * E * (A * B) := by ac_rfl
    _ = m * E * (P * C * D) := by rw [h1]
    _ = m * P * C * E * D := by ac_rfl
theorem hits_same {c m z y B b : Nat} {kk k : Int} (h : Hits c kk B) (hc : c = m * 10 ^ z) (hk : k = kk + (z : Int)) (g : Hits (m * 10 ^ y) (k - (y : Int)) b) : b = B := by
  refine Rnd.uniq g h (tenDn_pos _) (tenDn_pos _) (y75_mul _ _ _ _ ?_)
  rw [hc]
  exact same_num m z y kk k hk

theorem sg_facts (b : Nat) (c : UInt8) (t : List UInt8) (hc : c ≠ 45) : Lib.hasPrefix (sgOf b ++ c :: t) [45] = decide (9223372036854775808 ≤ b) ∧ Lib.trimPrefix (sgOf b ++ c :: t) [45] = c :: t ∧ (c ≠ 110 → sgOf b ++ c :: t ≠ nanTxt) ∧ (sgOf b).length ≤ 1 := by
  have hp : ∀ a t, Lib.hasPrefix (a :: t) [45] = (45 == a) := fun a t => by unfold Lib.hasPrefix; simp [List.isPrefixOf]
  unfold sgOf
  by_cases h : 9223372036854775808 ≤ b
  · rw [if_pos h, decide_eq_true h]
    refine ⟨rfl, rfl, fun _ => ?_, by simp⟩
    intro h2
    cases h2
  · rw [if_neg h, decide_eq_false h]
    have e : Lib.hasPrefix (c :: t) [45] = false := by rw [hp]; simpa using fun h => hc h.symm
    refine ⟨e, ?_, fun h2 h3 => h2 (List.cons.inj h3).1, by simp⟩
    unfold Lib.trimPrefix
    rw [List.nil_append, e]; rfl

/-- what was told is read -/
theorem text_back {b x : Nat} {t : List UInt8} {er : Int} (hb : b < 18446744073709551616) (ht : TextIs b t) (hr : ReadIs t x er) (hn : ¬ (b / 4503599627370496 % 2048 = 2047 ∧ b % 4503599627370496 ≠ 0)) : x = b ∧ er = 0 ∧ t.length ≤ 30 := by
  have hs : b = b % 9223372036854775808 + signBit (decide (9223372036854775808 ≤ b)) := by
    unfold signBit
    by_cases h : 9223372036854775808 ≤ b
    · rw [decide_eq_true h, if_pos rfl]; omega
    · rw [decide_eq_false h, if_neg (by decide)]; omega
  rcases ht with ⟨h1, h2, -⟩ | ⟨h1, h2, rfl⟩ | ⟨h1, h2, rfl⟩ | ⟨h1, h2, c, m, z, kk, hS, hc, hm, hm0, hl, k1, k2, rfl⟩
  · exact absurd ⟨h1, h2⟩ hn
  · obtain ⟨f1, f2, f3, f4⟩ := sg_facts b 105 [110, 102] (by decide)
    have e : sgOf b ++ infTxt = sgOf b ++ 105 :: [110, 102] := rfl
    have hlen : (sgOf b ++ infTxt).length ≤ 30 := by rw [List.length_append]; have : infTxt.length = 3 := rfl; omega
    rcases hr with ⟨h, -⟩ | ⟨-, ⟨h, -⟩ | ⟨-, h3, h4, h5⟩ | ⟨-, h3, -⟩⟩
    · omega
    · rw [e] at h; exact absurd h (f3 (by decide))
    · rw [e, f1] at h4
      refine ⟨?_, h5, hlen⟩
      have : b % 9223372036854775808 = 9218868437227405312 := by omega
      omega
    · exact absurd (by rw [e, f2]; rfl) h3
  · obtain ⟨f1, f2, f3, f4⟩ := sg_facts b 48 [46, 48] (by decide)
    have hlen : (sgOf b ++ [48, 46, 48]).length ≤ 30 := by rw [List.length_append]; simp; omega
    rcases hr with ⟨h, -⟩ | ⟨-, ⟨h, -⟩ | ⟨-, h3, -⟩ | ⟨-, -, h6⟩⟩
    · omega
    · exact absurd h (f3 (by decide))
    · rw [f2] at h3; cases h3
    · rw [f1, f2] at h6
      have e : litOf [48, 46, 48] = some ([48, 48], -1) := rfl
      rcases h6 with ⟨h, -⟩ | ⟨d, ex, b', hd, hh, h7⟩
      · rw [e] at h; cases h
      · rw [e] at hd
        obtain ⟨rfl, rfl⟩ := Prod.mk.inj (Option.some.inj hd)
        have e2 : decVal (Lib.trimLeftB [48, 48] 48) = 0 := rfl
        rw [e2] at hh
        have h0 : Hits 0 (max (min (-1) 1000) (-1000)) 0 := by
          unfold Hits
          rw [Nat.zero_mul]
          exact rnd_zero75 _ (tenDn_pos _)
        obtain rfl := hh.uniq h0
        rcases h7 with ⟨h, -⟩ | ⟨-, h8, h9⟩
        · cases h
        · exact ⟨by omega, h9, hlen⟩
  · obtain ⟨hd, tl, hp, hdig⟩ := point_head (decText m) (kk + (z : Int)) (text_digits m) (text_ne m)
    have hpl := point_len (decText m) (kk + (z : Int)) hl (by omega) (by omega)
    obtain ⟨a, y, hlit, hy⟩ := lit_point (decText m) (kk + (z : Int)) (text_digits m) (text_ne m) (dec_head m hm0) hl (by omega) (by omega)
    have hd45 : hd ≠ 45 := by rintro rfl; revert hdig; decide
    have hd110 : hd ≠ 110 := by rintro rfl; revert hdig; decide
    have hd105 : hd ≠ 105 := by rintro rfl; revert hdig; decide
    obtain ⟨f1, f2, f3, f4⟩ := sg_facts b hd tl hd45
    have hlen : (sgOf b ++ pointOf (decText m) (kk + (z : Int))).length ≤ 30 := by rw [List.length_append]; omega
    refine ⟨?_, ?_, hlen⟩ <;> rw [hp] at hr hlen hlit
    all_goals
      rcases hr with ⟨h, -⟩ | ⟨-, ⟨h, -⟩ | ⟨-, h3, -⟩ | ⟨-, -, h6⟩⟩
      · omega
      · exact absurd h (f3 hd110)
      · rw [f2] at h3; exact absurd (List.cons.inj h3).1 hd105
      · rw [f1, f2] at h6
        rcases h6 with ⟨h, -⟩ | ⟨d, ex, b', hdd, hh, h7⟩
        · rw [hlit] at h; cases h
        · rw [hlit] at hdd
          obtain ⟨rfl, rfl⟩ := Prod.mk.inj (Option.some.inj hdd)
          rw [trimLeft_point _ _ _ (text_ne m) (dec_head m hm0), decVal_noughts, decVal_text, show max (min (kk + (z : Int) - (y : Int)) 1000) (-1000) = kk + (z : Int) - (y : Int) by omega] at hh
          have hit : Hits c kk (b % 9223372036854775808) := by
            obtain ⟨N, D, top, n0, -, -, -, -, -, -, -, rfl, -, g, -⟩ := hS
            exact g
          obtain rfl := hits_same hit hc rfl hh
          rcases h7 with ⟨h, -⟩ | ⟨-, h8, h9⟩
          · exfalso; omega
          · first | exact h9 | omega
/-- two texts of one number without its sign are the same -/
theorem shortIs_uniq {B c d : Nat} {kk jj : Int} (h : ShortIs B c kk) (g : ShortIs B d jj) : c = d ∧ kk = jj := by
  obtain ⟨N, D, top, n0, hF, hb, hnb, h1, h17, ⟨-, rfl, rfl, hp⟩, -, rfl, hc, hit, hprev⟩ := h
  obtain ⟨N', D', top', n0', hF', hb', hnb', h1', h17', ⟨-, rfl, rfl, hp'⟩, -, rfl, hc', hit', hprev'⟩ := g
  have ht : top = top' := by
    rcases Int.lt_trichotomy top top' with h | h | h
    · exact absurd (hb.mono (by omega)) hnb'
    · exact h
    · exact absurd (hb'.mono (by omega)) hnb
  subst ht
  have hn : n0 = n0' := by
    rcases Nat.lt_trichotomy n0 n0' with h | h | h
    · have := hprev' n0 h1 h
      rcases hc with rfl | rfl
      · exact absurd hit this.1
      · exact absurd hit this.2
    · exact h
    · have := hprev n0' h1' h
      rcases hc' with rfl | rfl
      · exact absurd hit' this.1
      · exact absurd hit' this.2
  subst hn
  exact ⟨hp.uniq hp', rfl⟩
theorem ten_free {m n z y : Nat} (h : m * 10 ^ z = n * 10 ^ y) (hm : m % 10 ≠ 0) (hn : n % 10 ≠ 0) : m = n ∧ z = y := by
  have key : ∀ (m n z y : Nat), m * 10 ^ z = n * 10 ^ y → m % 10 ≠ 0 → z ≤ y → m = n ∧ z = y := by
    intro m n z y h hm hzy
    obtain ⟨j, rfl⟩ : ∃ j, y = z + j := ⟨y - z, by omega⟩
    rw [Nat.pow_add, Nat.mul_comm (10 ^ z), ← Nat.mul_assoc] at h
    have h2 := Nat.eq_of_mul_eq_mul_right (Nat.pow_pos (show 0 < 10 by decide)) h
    cases j with
    | zero => simpa using h2
    | succ j =>
      exfalso
      rw [Nat.pow_succ, ← Nat.mul_assoc] at h2
      omega
  rcases Nat.le_total z y with h1 | h1
  · exact key m n z y h hm h1
  · obtain ⟨e1, e2⟩ := key n m y z h.symm hn h1
    exact ⟨e1.symm, e2.symm⟩
theorem text_sign {b d : Nat} {s t : List UInt8} (hb : TextIs b s) (hd : TextIs d t) (h : b % 9223372036854775808 = d % 9223372036854775808) (hs : 9223372036854775808 ≤ b ↔ ¬ 9223372036854775808 ≤ d) (hn : ¬ (b / 4503599627370496 % 2048 = 2047 ∧ b % 4503599627370496 ≠ 0)) : t = 45 :: s ∨ s = 45 :: t := by
  have e1 : b / 4503599627370496 % 2048 = d / 4503599627370496 % 2048 := by omega
  have e2 : b % 4503599627370496 = d % 4503599627370496 := by omega
  have core : ∃ u, s = sgOf b ++ u ∧ t = sgOf d ++ u := by
    rcases hb with ⟨h1, h2, -⟩ | ⟨h1, h2, rfl⟩ | ⟨h1, h2, rfl⟩ | ⟨h1, h2, c, m, z, kk, hS, hc, hm, hm0, hl, k1, k2, rfl⟩
    · exact absurd ⟨h1, h2⟩ hn
    · rcases hd with ⟨g1, g2, -⟩ | ⟨g1, g2, rfl⟩ | ⟨g1, g2, rfl⟩ | ⟨g1, g2, -⟩
      · omega
      · exact ⟨_, rfl, rfl⟩
      · omega
      · omega
    · rcases hd with ⟨g1, g2, -⟩ | ⟨g1, g2, rfl⟩ | ⟨g1, g2, rfl⟩ | ⟨g1, g2, -⟩
      · omega
      · omega
      · exact ⟨_, rfl, rfl⟩
      · omega
    · rcases hd with ⟨g1, g2, -⟩ | ⟨g1, g2, rfl⟩ | ⟨g1, g2, rfl⟩ | ⟨g1, g2, c', m', z', kk', hS', hc', hm', hm0', hl', k1', k2', rfl⟩
      · omega
      · omega
      · omega
      · rw [← h] at hS'
        obtain ⟨rfl, rfl⟩ := shortIs_uniq hS hS'
        obtain ⟨rfl, rfl⟩ := ten_free (hc.symm.trans hc') hm hm'
        exact ⟨_, rfl, rfl⟩
  obtain ⟨u, rfl, rfl⟩ := core
  unfold sgOf
  by_cases h1 : 9223372036854775808 ≤ b
  · right
    rw [if_pos h1, if_neg (hs.1 h1)]; rfl
  · left
    rw [if_neg h1, if_pos (by apply Classical.byContradiction; intro h2; exact h1 (hs.2 h2))]; rfl
theorem read_nan {x : Nat} {er : Int} (hr : ReadIs nanTxt x er) : x = 9221120237041090561 ∧ er = 0 := by
  rcases hr with ⟨h, -⟩ | ⟨-, ⟨-, h1, h2⟩ | ⟨h, -⟩ | ⟨h, -⟩⟩
  · exact absurd h (by decide)
  · exact ⟨h1, h2⟩
  · exact absurd rfl h
  · exact absurd rfl h
/-- what is read is of no other kind -/
theorem read_kind {l : List UInt8} {x : Nat} {er : Int} (hr : ReadIs l x er) : x < 18446744073709551616 ∧ (er ≠ 0 → x = 0) ∧ (x = 9221120237041090561 ∨ ¬ (x / 4503599627370496 % 2048 = 2047 ∧ x % 4503599627370496 ≠ 0)) := by
  have hsb : ∀ m, signBit m = 0 ∨ signBit m = 9223372036854775808 := fun m => by cases m; exact .inl rfl; exact .inr rfl
  rcases hr with ⟨-, rfl, h⟩ | ⟨-, ⟨-, rfl, h⟩ | ⟨-, -, rfl, h⟩ | ⟨-, -, ⟨-, rfl, h⟩ | ⟨d, e, b, -, -, ⟨-, rfl, h⟩ | ⟨hb, rfl, h⟩⟩⟩⟩
  · exact ⟨by omega, fun _ => rfl, .inr (by omega)⟩
  · exact ⟨by omega, fun h2 => absurd h h2, .inl rfl⟩
  · rcases hsb (Lib.hasPrefix l [45]) with h2 | h2 <;> rw [h2] <;> exact ⟨by omega, fun h2 => absurd h h2, .inr (by omega)⟩
  · exact ⟨by omega, fun _ => rfl, .inr (by omega)⟩
  · exact ⟨by omega, fun _ => rfl, .inr (by omega)⟩
  · rcases hsb (Lib.hasPrefix l [45]) with h2 | h2 <;> rw [h2] <;> exact ⟨by omega, fun h2 => absurd h h2, .inr (by omega)⟩
/-- what is read is told as a text that is read the same -/
theorem read_same {l t : List UInt8} {x y : Nat} {er f : Int} (hr : ReadIs l x er) (ht : TextIs x t) (hs : ReadIs t y f) : y = x ∧ f = 0 := by
  obtain ⟨k1, -, k2⟩ := read_kind hr
  by_cases hn : x / 4503599627370496 % 2048 = 2047 ∧ x % 4503599627370496 ≠ 0
  · obtain rfl : x = 9221120237041090561 := by
      rcases k2 with h | h
      · exact h
      · exact absurd hn h
    have e : t = nanTxt := by
      rcases ht with ⟨-, -, h⟩ | ⟨-, h, -⟩ | ⟨h, -⟩ | ⟨h, -⟩
      · exact h
      · exact absurd h hn.2
      · exact absurd hn.1 h
      · exact absurd hn.1 h
    subst e
    exact read_nan hs
  · have := text_back k1 ht hs hn
    exact ⟨this.1, this.2.1⟩
end Go.Proofs.YtldhmfkojaekfaaGreatDoor
namespace Go.Proofs.YtldhmfkojaekfaaGreatDoor
open Go.RowKit Gx
set_option maxRecDepth 100000

def isNan (b : Nat) : Prop := b / 4503599627370496 % 2048 = 2047 ∧ b % 4503599627370496 ≠ 0
theorem Rnd.same {Y D W E b : Nat} (h : Rnd Y D b) (hD : 0 < D) (hE : 0 < E) (he : Y * E = W * D) : Rnd W E b :=
  Rnd.between h h hD hD hE (Nat.le_of_eq he) (Nat.le_of_eq he.symm)
/-- what is told reads so -/
theorem text_reads {b : Nat} {t : List UInt8} (hb : b < 18446744073709551616) (ht : TextIs b t) : ReadIs t (if b / 4503599627370496 % 2048 = 2047 ∧ b % 4503599627370496 ≠ 0 then 9221120237041090561 else b) 0 := by
  have hs : b = b % 9223372036854775808 + signBit (decide (9223372036854775808 ≤ b)) := by
    unfold signBit
    by_cases h : 9223372036854775808 ≤ b
    · rw [decide_eq_true h, if_pos rfl]; omega
    · rw [decide_eq_false h, if_neg (by decide)]; omega
  rcases ht with ⟨h1, h2, rfl⟩ | ⟨h1, h2, rfl⟩ | ⟨h1, h2, rfl⟩ | ⟨h1, h2, c, m, z, kk, hS, hc, hm, hm0, hl, k1, k2, rfl⟩
  · rw [if_pos ⟨h1, h2⟩]
    exact .inr ⟨by decide, .inl ⟨rfl, rfl, rfl⟩⟩
  · rw [if_neg (fun h => h.2 h2)]
    obtain ⟨f1, f2, f3, f4⟩ := sg_facts b 105 [110, 102] (by decide)
    have e : sgOf b ++ infTxt = sgOf b ++ 105 :: [110, 102] := rfl
    refine .inr ⟨?_, .inr (.inl ⟨?_, ?_, ?_, rfl⟩)⟩
    · rw [List.length_append]; have : infTxt.length = 3 := rfl; omega
    · rw [e]; exact f3 (by decide)
    · rw [e, f2]; rfl
    · rw [e, f1]
      have : b % 9223372036854775808 = 9218868437227405312 := by omega
      omega
  · rw [if_neg (fun h => h1 h.1)]
    obtain ⟨f1, f2, f3, f4⟩ := sg_facts b 48 [46, 48] (by decide)
    refine .inr ⟨?_, .inr (.inr ⟨f3 (by decide), ?_, ?_⟩)⟩
    · rw [List.length_append]; simp; omega
    · rw [f2]; decide
    · rw [f1, f2]
      have e : litOf [48, 46, 48] = some ([48, 48], -1) := rfl
      refine .inr ⟨_, _, 0, e, ?_, .inr ⟨by omega, by omega, rfl⟩⟩
      have e2 : decVal (Lib.trimLeftB [48, 48] 48) = 0 := rfl
      rw [e2]
      unfold Hits
      rw [Nat.zero_mul]
      exact rnd_zero75 _ (tenDn_pos _)
  · rw [if_neg (fun h => h1 h.1)]
    obtain ⟨hd, tl, hp, hdig⟩ := point_head (decText m) (kk + (z : Int)) (text_digits m) (text_ne m)
    have hpl := point_len (decText m) (kk + (z : Int)) hl (by omega) (by omega)
    obtain ⟨a, y, hlit, hy⟩ := lit_point (decText m) (kk + (z : Int)) (text_digits m) (text_ne m) (dec_head m hm0) hl (by omega) (by omega)
    have hd45 : hd ≠ 45 := by rintro rfl; revert hdig; decide
    have hd110 : hd ≠ 110 := by rintro rfl; revert hdig; decide
    have hd105 : hd ≠ 105 := by rintro rfl; revert hdig; decide
    obtain ⟨f1, f2, f3, f4⟩ := sg_facts b hd tl hd45
    have hlen : (sgOf b ++ pointOf (decText m) (kk + (z : Int))).length ≤ 30 := by rw [List.length_append]; omega
    rw [hp] at hlen hlit ⊢
    refine .inr ⟨by omega, .inr (.inr ⟨f3 hd110, ?_, ?_⟩)⟩
    · rw [f2]; intro h3; exact hd105 (List.cons.inj h3).1
    · rw [f1, f2]
      refine .inr ⟨_, _, b % 9223372036854775808, hlit, ?_, .inr ⟨by omega, hs, rfl⟩⟩
      rw [trimLeft_point _ _ _ (text_ne m) (dec_head m hm0), decVal_noughts, decVal_text, show max (min (kk + (z : Int) - (y : Int)) 1000) (-1000) = kk + (z : Int) - (y : Int) by omega]
      have hit : Hits c kk (b % 9223372036854775808) := by
        obtain ⟨N, D, top, n0, -, -, -, -, -, -, -, rfl, -, g, -⟩ := hS
        exact g
      refine Rnd.same hit (tenDn_pos _) (tenDn_pos _) (y75_mul _ _ _ _ ?_)
      rw [hc]
      exact (same_num m z y kk _ rfl).symm
theorem text_uniq {b : Nat} {s t : List UInt8} (hb : TextIs b s) (hd : TextIs b t) : s = t := by
  rcases hb with ⟨h1, h2, rfl⟩ | ⟨h1, h2, rfl⟩ | ⟨h1, h2, rfl⟩ | ⟨h1, h2, c, m, z, kk, hS, hc, hm, hm0, hl, k1, k2, rfl⟩
  · rcases hd with ⟨g1, g2, rfl⟩ | ⟨g1, g2, rfl⟩ | ⟨g1, g2, rfl⟩ | ⟨g1, g2, -⟩
    · rfl
    · omega
    · omega
    · omega
  · rcases hd with ⟨g1, g2, rfl⟩ | ⟨g1, g2, rfl⟩ | ⟨g1, g2, rfl⟩ | ⟨g1, g2, -⟩
    · omega
    · rfl
    · omega
    · omega
  · rcases hd with ⟨g1, g2, rfl⟩ | ⟨g1, g2, rfl⟩ | ⟨g1, g2, rfl⟩ | ⟨g1, g2, -⟩
    · omega
    · omega
    · rfl
    · omega
  · rcases hd with ⟨g1, g2, rfl⟩ | ⟨g1, g2, rfl⟩ | ⟨g1, g2, rfl⟩ | ⟨g1, g2, c', m', z', kk', hS', hc', hm', hm0', hl', k1', k2', rfl⟩
    · omega
    · omega
    · omega
    · obtain ⟨rfl, rfl⟩ := shortIs_uniq hS hS'
      obtain ⟨rfl, rfl⟩ := ten_free (hc.symm.trans hc') hm hm'
      rfl
/-- a fraction's text tells the fraction -/
theorem text_tell {a b : Nat} {t : List UInt8} (ha : a < 18446744073709551616) (hb : b < 18446744073709551616) (h : TextIs a t) (g : TextIs b t) (na : isNan a → a = 9221120237041090561) (nb : isNan b → b = 9221120237041090561) : a = b := by
  unfold isNan at na nb
  have r := text_reads ha h
  by_cases hn : b / 4503599627370496 % 2048 = 2047 ∧ b % 4503599627370496 ≠ 0
  · have r2 := text_reads hb g
    rw [if_pos hn] at r2
    by_cases hm : a / 4503599627370496 % 2048 = 2047 ∧ a % 4503599627370496 ≠ 0
    · rw [na hm, nb hn]
    · have := (text_back ha h r2 hm).1
      rw [nb hn, this]
  · have := (text_back hb g r hn).1
    by_cases hm : a / 4503599627370496 % 2048 = 2047 ∧ a % 4503599627370496 ≠ 0
    · rw [if_pos hm] at this; rw [na hm, this]
    · rw [if_neg hm] at this; exact this
/-- the bytes of a fraction's text -/
def fCh (c : UInt8) : Bool := isDigit c || c == 45 || c == 46 || c == 101 || c == 105 || c == 110 || c == 102 || c == 97
def iCh (c : UInt8) : Bool := isDigit c || c == 45
theorem iCh_f {c : UInt8} (h : iCh c = true) : fCh c = true := by unfold iCh at h; unfold fCh; simp only [Bool.or_eq_true] at h ⊢; rcases h with h | h <;> simp [h]
theorem itoa_ch (n : Int) : ∀ c ∈ Lib.itoa n, iCh c = true := by
  intro c hc
  unfold Lib.itoa at hc
  unfold iCh
  by_cases h : n < 0
  · rw [if_pos h, decDigits_text] at hc
    rcases List.mem_cons.1 hc with rfl | hc
    · rfl
    · rw [text_digits _ c hc]; rfl
  · rw [if_neg h, decDigits_text] at hc
    rw [text_digits _ c hc]; rfl
theorem itoa_ne (n : Int) : Lib.itoa n ≠ [] := by
  unfold Lib.itoa
  split
  · simp
  · rw [decDigits_text]; exact text_ne _
theorem itoa_tell {n m : Int} (h : Lib.itoa n = Lib.itoa m) : n = m := by
  have hne : ∀ u v, 45 :: decText u ≠ decText v := by
    intro u v e
    have := text_digits v 45 (by rw [← e]; simp)
    exact absurd this (by decide)
  have hd : ∀ u v, decText u = decText v → u = v := fun u v e => by
    have := congrArg decVal e
    rwa [decVal_text, decVal_text] at this
  unfold Lib.itoa at h
  rw [decDigits_text, decDigits_text, decDigits_text, decDigits_text] at h
  by_cases h1 : n < 0
  · rw [if_pos h1] at h
    by_cases h2 : m < 0
    · rw [if_pos h2] at h
      have := hd _ _ (List.cons.inj h).2
      omega
    · rw [if_neg h2] at h; exact (hne _ _ h).elim
  · rw [if_neg h1] at h
    by_cases h2 : m < 0
    · rw [if_pos h2] at h; exact (hne _ _ h.symm).elim
    · rw [if_neg h2] at h
      have := hd _ _ h
      omega
theorem point_ch (d : List UInt8) (k : Int) (h1 : ∀ b ∈ d, isDigit b = true) : (∀ c ∈ pointOf d k, fCh c = true) ∧ ∃ c ∈ pointOf d k, iCh c = false := by
  have hd : ∀ c ∈ d, fCh c = true := fun c hc => iCh_f (by unfold iCh; rw [h1 c hc]; rfl)
  have hr : ∀ n, ∀ c ∈ List.replicate n (48 : UInt8), fCh c = true := fun n c hc => by rw [List.eq_of_mem_replicate hc]; decide
  unfold pointOf
  split
  · refine ⟨fun c hc => ?_, 46, by simp, by decide⟩
    rcases List.mem_append.1 hc with hc | hc
    · rcases List.mem_append.1 hc with hc | hc
      · simp only [List.mem_cons, List.not_mem_nil, or_false] at hc
        rcases hc with rfl | rfl <;> decide
      · exact hr _ c hc
    · exact hd c hc
  split
  · refine ⟨fun c hc => ?_, 46, by simp, by decide⟩
    rcases List.mem_append.1 hc with hc | hc
    · exact hd c (List.mem_of_mem_take hc)
    · rcases List.mem_cons.1 hc with rfl | hc
      · decide
      · exact hd c (List.mem_of_mem_drop hc)
  split
  · refine ⟨fun c hc => ?_, 46, by simp, by decide⟩
    rcases List.mem_append.1 hc with hc | hc
    · rcases List.mem_append.1 hc with hc | hc
      · exact hd c hc
      · exact hr _ c hc
    · simp only [List.mem_cons, List.not_mem_nil, or_false] at hc
      rcases hc with rfl | rfl <;> decide
  · refine ⟨fun c hc => ?_, 101, by simp, by decide⟩
    rcases List.mem_append.1 hc with hc | hc
    · rcases List.mem_append.1 hc with hc | hc
      · exact hd c (List.mem_of_mem_take hc)
      · split at hc
        · rcases List.mem_cons.1 hc with rfl | hc
          · decide
          · exact hd c (List.mem_of_mem_drop hc)
        · cases hc
    · rcases List.mem_cons.1 hc with rfl | hc
      · decide
      · exact iCh_f (itoa_ch _ c hc)
theorem text_ch {b : Nat} {t : List UInt8} (h : TextIs b t) : (∀ c ∈ t, fCh c = true) ∧ (∃ c ∈ t, iCh c = false) ∧ t.length ≤ 30 := by
  have hsg : ∀ c ∈ sgOf b, fCh c = true := fun c hc => by
    unfold sgOf at hc
    split at hc
    · rw [List.mem_singleton.1 hc]; decide
    · cases hc
  have hsl : (sgOf b).length ≤ 1 := by unfold sgOf; split <;> simp
  have app : ∀ u, ((∀ c ∈ u, fCh c = true) ∧ ∃ c ∈ u, iCh c = false) → u.length ≤ 29 → (∀ c ∈ sgOf b ++ u, fCh c = true) ∧ (∃ c ∈ sgOf b ++ u, iCh c = false) ∧ (sgOf b ++ u).length ≤ 30 := by
    rintro u ⟨h1, c, h2, h3⟩ h4
    refine ⟨fun c hc => ?_, ⟨c, List.mem_append_right _ h2, h3⟩, by rw [List.length_append]; omega⟩
    rcases List.mem_append.1 hc with hc | hc
    · exact hsg c hc
    · exact h1 c hc
  rcases h with ⟨h1, h2, rfl⟩ | ⟨h1, h2, rfl⟩ | ⟨h1, h2, rfl⟩ | ⟨h1, h2, c, m, z, kk, hS, hc, hm, hm0, hl, k1, k2, rfl⟩
  · exact ⟨by decide, ⟨110, by decide, by decide⟩, by decide⟩
  · exact app _ ⟨by decide, 105, by decide, by decide⟩ (by decide)
  · exact app _ ⟨by decide, 46, by decide, by decide⟩ (by decide)
  · exact app _ (point_ch _ _ (text_digits m)) (point_len _ _ hl (by omega) (by omega))
end Go.Proofs.YtldhmfkojaekfaaGreatDoor
namespace Go.Proofs.YtldhmfkojaekfaaGreatDoor
open Go

/-- a digit's byte -/
def digB (d : Nat) : UInt8 := if d < 10 then UInt8.ofNat (48 + d) else UInt8.ofNat (87 + d)
/-- the digits of u in base b, the first ahead -/
def digF : Nat → Nat → Nat → List UInt8
  | 0, _, _ => []
  | f + 1, b, u => if u < b then [digB u] else digF f b (u / b) ++ [digB (u % b)]

def ints (l : List UInt8) : List Int := l.map fun b => (b.toNat : Int)
theorem ints_append (a b : List UInt8) : ints (a ++ b) = ints a ++ ints b := by unfold ints; rw [List.map_append]
theorem digB_val (d : Nat) (h : d < 16) : (digB d).toNat < 256 := UInt8.toNat_lt _
theorem digF_pos (f b u : Nat) (h : u < f) : 1 ≤ (digF f b u).length := by
  cases f with
  | zero => omega
  | succ f =>
    unfold digF
    split
    · simp
    · simp
/-- what a byte is worth as a digit to base 16 -/
def hexOf (c : UInt8) : Option Nat := if 48 ≤ c.toNat ∧ c.toNat ≤ 57 then some (c.toNat - 48) else if 97 ≤ c.toNat ∧ c.toNat ≤ 102 then some (c.toNat - 87) else if 65 ≤ c.toNat ∧ c.toNat ≤ 70 then some (c.toNat - 55) else none
def hexVal : List UInt8 → Nat → Option Nat
  | [], n => some n
  | c :: t, n => match hexOf c with
    | none => none
    | some d => hexVal t (n * 16 + d)
theorem hexOf_lt {c : UInt8} {d : Nat} (h : hexOf c = some d) : d < 16 := by
  unfold hexOf at h
  split at h
  · have := Option.some.inj h; omega
  split at h
  · have := Option.some.inj h; omega
  split at h
  · have := Option.some.inj h; omega
  · cases h
theorem hexVal_lt : ∀ (l : List UInt8) (n v : Nat), hexVal l n = some v → v < (n + 1) * 16 ^ l.length
  | [], n, v, h => by
    have := Option.some.inj h
    simp; omega
  | c :: t, n, v, h => by
    unfold hexVal at h
    split at h
    · cases h
    · rename_i d hd
      have h1 := hexVal_lt t _ v h
      have h2 := hexOf_lt hd
      rw [List.length_cons, Nat.pow_succ, Nat.mul_comm (16 ^ t.length) 16, ← Nat.mul_assoc]
      exact Nat.lt_of_lt_of_le h1 (Nat.mul_le_mul_right _ (by omega))
/-- the digits of a small number -/
def hexText (n : Nat) : List UInt8 := digF (n + 1) 16 n
theorem hexText_facts (n : Nat) (h : n < 128) : hexVal (hexText n) 0 = some n ∧ 1 ≤ (hexText n).length ∧ (hexText n).length ≤ 2 ∧ (∀ c ∈ hexText n, c.toNat < 128 ∧ c ≠ 125 ∧ c ≠ 10) := by
  have key : ∀ e : Fin 128, hexVal (hexText e.val) 0 = some e.val ∧ 1 ≤ (hexText e.val).length ∧ (hexText e.val).length ≤ 2 ∧ (∀ c ∈ hexText e.val, c.toNat < 128 ∧ c ≠ 125 ∧ c ≠ 10) := by decide +kernel
  exact key ⟨n, h⟩
theorem indexByte_skip (c : UInt8) : ∀ (a y : List UInt8), (∀ x ∈ a, x ≠ c) → Lib.indexByte (a ++ c :: y) c = (a.length : Int)
  | [], y, _ => by simp [Lib.indexByte]
  | b :: a, y, h => by
    have hb : (b == c) = false := by simpa using h b (by simp)
    have ih := indexByte_skip c a y (fun x hx => h x (by simp [hx]))
    rw [List.cons_append, Lib.indexByte, hb, ih]
    have : (((a.length : Nat) : Int) == -1) = false := by rw [beq_eq_false_iff_ne]; omega
    rw [this]
    simp
theorem indexByte_bound (c : UInt8) : ∀ (l : List UInt8), -1 ≤ Lib.indexByte l c ∧ Lib.indexByte l c < l.length
  | [] => by simp [Lib.indexByte]
  | b :: l => by
    have ih := indexByte_bound c l
    unfold Lib.indexByte
    rw [List.length_cons]
    split
    · omega
    · split <;> omega
/-- the first one stays the first one -/
theorem indexByte_take (c : UInt8) : ∀ (l : List UInt8) (k m : Nat), Lib.indexByte l c = (k : Int) → k < m → Lib.indexByte (l.take m) c = (k : Int)
  | [], k, m, h, _ => by simp [Lib.indexByte] at h
  | b :: l, k, 0, h, hm => by omega
  | b :: l, k, m + 1, h, hm => by
    unfold Lib.indexByte at h
    rw [List.take_succ_cons, Lib.indexByte]
    by_cases hb : (b == c) = true
    · rw [if_pos hb] at h ⊢; exact h
    · rw [if_neg hb] at h ⊢
      have hbd := indexByte_bound c l
      by_cases h1 : (Lib.indexByte l c == -1) = true
      · rw [if_pos h1] at h; omega
      · rw [if_neg h1] at h
        have h2 : Lib.indexByte l c ≠ -1 := by simpa using h1
        have ih := indexByte_take c l (k - 1) m (by omega) (by omega)
        have h3 : (((k - 1 : Nat) : Int) == -1) = false := by rw [beq_eq_false_iff_ne]; omega
        rw [ih, h3]
        simp only [Bool.false_eq_true, if_false]
        omega
end Go.Proofs.YtldhmfkojaekfaaGreatDoor
namespace Go.Proofs.YtldhmfkojaekfaaGreatDoor
open Go.RowKit Gx

def uOf (s : List UInt8) : Option (Int × Nat) :=
  if Lib.hasPrefix s [117, 123] = true then
    if Lib.indexByte (s.drop 2) 125 < 1 ∨ 6 < Lib.indexByte (s.drop 2) 125 then none
    else match hexVal ((s.drop 2).take (Lib.indexByte (s.drop 2) 125).toNat) 0 with
      | none => none
      | some n => if good (n : Int) = true then some ((n : Int), 3 + (Lib.indexByte (s.drop 2) 125).toNat) else none
  else none
/-- behind a stroke: what it says, and its bytes -/
def escOf (s : List UInt8) : Option (Int × Nat) :=
  match s with
  | [] => none
  | c :: t =>
    if c = 34 ∨ c = 92 ∨ c = 47 then some ((c.toNat : Int), 1)
    else if c = 110 then some (10, 1) else if c = 116 then some (9, 1) else if c = 114 then some (13, 1)
    else uOf (c :: t)
def more (r : Int) (n : Nat) (x : Option (List Int × Nat)) : Option (List Int × Nat) := x.map fun p => (r :: p.1, n + p.2)
/-- what stands behind the first quote -/
def unqF : Nat → List UInt8 → Option (List Int × Nat)
  | 0, _ => none
  | _ + 1, [] => none
  | f + 1, b :: t =>
    if b = 34 then some ([], 1)
    else if b = 10 then none
    else if b = 92 then
      match escOf t with
      | none => none
      | some (r, n) => more r (1 + n) (unqF f (t.drop n))
    else if Lib.decodeL (b :: t) = (65533, 1) then none
    else more ((Lib.decodeL (b :: t)).1 : Int) (Lib.decodeL (b :: t)).2 (unqF f ((b :: t).drop (Lib.decodeL (b :: t)).2))
def unquote (q : List UInt8) : Option (List Int × Nat) :=
  if Lib.hasPrefix q [34] = true then (unqF q.length (q.drop 1)).map fun p => (p.1, p.2 + 1) else none
def quoteR (r : Int) : List UInt8 :=
  if r = 34 ∨ r = 92 then 92 :: Lib.encodeRune r
  else if r = 10 then [92, 110] else if r = 9 then [92, 116] else if r = 13 then [92, 114]
  else if r < 32 ∨ r = 127 then [92, 117, 123] ++ hexText r.natAbs ++ [125]
  else Lib.encodeRune r
def quotes (rs : List Int) : List UInt8 := rs.flatMap quoteR
def quoteOf (rs : List Int) : List UInt8 := 34 :: (quotes rs ++ [34])

theorem uOf_good {s : List UInt8} {r : Int} {n : Nat} (h : uOf s = some (r, n)) : good r = true ∧ 1 ≤ n ∧ n ≤ s.length := by
  unfold uOf at h
  split at h
  · split at h
    · cases h
    · rename_i hk
      split at h
      · cases h
      · split at h
        · rename_i hg
          obtain ⟨rfl, rfl⟩ := Prod.mk.inj (Option.some.inj h)
          have := indexByte_bound 125 (s.drop 2)
          rw [List.length_drop] at this
          exact ⟨hg, by omega, by omega⟩
        · cases h
  · cases h
theorem escOf_good {s : List UInt8} {r : Int} {n : Nat} (h : escOf s = some (r, n)) : good r = true ∧ 1 ≤ n ∧ n ≤ s.length := by
  unfold escOf at h
  split at h
  · cases h
  rename_i c t
  rw [List.length_cons]
  split at h
  · rename_i hc
    obtain ⟨rfl, rfl⟩ := Prod.mk.inj (Option.some.inj h)
    exact ⟨by rcases hc with rfl | rfl | rfl <;> decide, by omega, by omega⟩
  split at h
  · obtain ⟨rfl, rfl⟩ := Prod.mk.inj (Option.some.inj h); exact ⟨by decide, by omega, by omega⟩
  split at h
  · obtain ⟨rfl, rfl⟩ := Prod.mk.inj (Option.some.inj h); exact ⟨by decide, by omega, by omega⟩
  split at h
  · obtain ⟨rfl, rfl⟩ := Prod.mk.inj (Option.some.inj h); exact ⟨by decide, by omega, by omega⟩
  · have := uOf_good h
    rwa [List.length_cons] at this
theorem hasPrefix_take {s p : List UInt8} (m : Nat) (h : Lib.hasPrefix s p = true) (hm : p.length ≤ m) : Lib.hasPrefix (s.take m) p = true := by
  unfold Lib.hasPrefix at *
  rw [List.isPrefixOf_iff_prefix] at *
  obtain ⟨t, rfl⟩ := h
  exact ⟨t.take (m - p.length), by rw [List.take_append, List.take_of_length_le hm]⟩
theorem uOf_take {s : List UInt8} {r : Int} {n : Nat} (h : uOf s = some (r, n)) (m : Nat) (hm : n ≤ m) : uOf (s.take m) = some (r, n) := by
  have h0 := h
  unfold uOf at h
  split at h
  · rename_i hp
    split at h
    · cases h
    · rename_i hk
      split at h
      · cases h
      · rename_i v hv
        split at h
        · rename_i hg
          obtain ⟨rfl, rfl⟩ := Prod.mk.inj (Option.some.inj h)
          obtain ⟨k, hkk⟩ : ∃ k : Nat, Lib.indexByte (s.drop 2) 125 = (k : Int) := ⟨(Lib.indexByte (s.drop 2) 125).toNat, by omega⟩
          rw [hkk, Int.toNat_natCast] at hm hv
          have e : (s.take m).drop 2 = (s.drop 2).take (m - 2) := List.drop_take
          have e2 := indexByte_take 125 (s.drop 2) k (m - 2) hkk (by omega)
          have e3 : ((s.drop 2).take (m - 2)).take k = (s.drop 2).take k := by rw [List.take_take, Nat.min_eq_left (by omega)]
          unfold uOf
          rw [if_pos (hasPrefix_take m hp (by show 2 ≤ m; omega)), e, e2, Int.toNat_natCast, e3, if_neg (by omega), hv, hkk, Int.toNat_natCast]
          simp only
          rw [if_pos hg]
        · cases h
  · cases h
theorem escOf_take {s : List UInt8} {r : Int} {n : Nat} (h : escOf s = some (r, n)) (m : Nat) (hm : n ≤ m) : escOf (s.take m) = some (r, n) := by
  have h1 := (escOf_good h).2.1
  obtain ⟨m, rfl⟩ : ∃ k, m = k + 1 := ⟨m - 1, by omega⟩
  cases s with
  | nil => cases h
  | cons c t =>
    have hu := fun h => uOf_take (s := c :: t) (r := r) (n := n) h (m + 1) hm
    rw [List.take_succ_cons] at hu ⊢
    unfold escOf at h ⊢
    simp only at h ⊢
    split at h
    · rename_i hc; rw [if_pos hc]; exact h
    rename_i c1
    rw [if_neg c1]
    split at h
    · rename_i hc; rw [if_pos hc]; exact h
    rename_i c2
    rw [if_neg c2]
    split at h
    · rename_i hc; rw [if_pos hc]; exact h
    rename_i c3
    rw [if_neg c3]
    split at h
    · rename_i hc; rw [if_pos hc]; exact h
    rename_i c4
    rw [if_neg c4]
    exact hu h

theorem more_some {r : Int} {n : Nat} {x : Option (List Int × Nat)} {rs : List Int} {k : Nat} (h : more r n x = some (rs, k)) : ∃ ts j, x = some (ts, j) ∧ rs = r :: ts ∧ k = n + j := by
  unfold more at h
  obtain ⟨⟨ts, j⟩, h1, h2⟩ := Option.map_eq_some_iff.1 h
  obtain ⟨rfl, rfl⟩ := Prod.mk.inj h2
  exact ⟨ts, j, h1, rfl, rfl⟩
theorem decode_len (l : List UInt8) (hne : l ≠ []) : (Lib.decodeL l).2 ≤ l.length := by
  rw [Lib.decodeL_N]
  exact Lib.decodeN_width_le _ _ _ _ _ (List.length_pos_iff.2 hne)
theorem decode_take {l : List UInt8} (hne : l ≠ []) (h : Lib.decodeL l ≠ (65533, 1)) (m : Nat) (hm : (Lib.decodeL l).2 ≤ m) : Lib.decodeL (l.take m) = Lib.decodeL l := by
  have he := Lib.encode_decode l hne (fun h2 => h (Prod.ext h2.1 h2.2))
  have hv := Lib.decodeN_valid l.length (l.getD 0 0).toNat (l.getD 1 0).toNat (l.getD 2 0).toNat (l.getD 3 0).toNat (UInt8.toNat_lt _)
  rw [← Lib.decodeL_N] at hv
  have hg : good ((Lib.decodeL l).1 : Int) = true := by rw [good_iff]; omega
  have hl : (Lib.encodeRune ((Lib.decodeL l).1 : Int)).length = (Lib.decodeL l).2 := by
    rw [he, List.length_take, Nat.min_eq_left (decode_len l hne)]
  have e : l.take m = Lib.encodeRune ((Lib.decodeL l).1 : Int) ++ (l.take m).drop (Lib.decodeL l).2 := by
    rw [he]
    conv => lhs; rw [← List.take_append_drop (Lib.decodeL l).2 (l.take m)]
    rw [List.take_take, Nat.min_eq_left hm]
  rw [e, decode_enc _ hg, hl]
  simp

theorem unqF_good : ∀ (f : Nat) (l : List UInt8) (rs : List Int) (k : Nat), unqF f l = some (rs, k) → rs.all good = true ∧ 1 ≤ k ∧ k ≤ l.length ∧ l.getD (k - 1) 0 = 34
  | 0, l, rs, k, h => by cases h
  | f + 1, [], rs, k, h => by cases h
  | f + 1, b :: t, rs, k, h => by
    unfold unqF at h
    split at h
    · rename_i hb
      obtain ⟨rfl, rfl⟩ := Prod.mk.inj (Option.some.inj h)
      exact ⟨rfl, by omega, by simp, hb⟩
    split at h
    · cases h
    split at h
    · split at h
      · cases h
      · rename_i r n he
        obtain ⟨ts, j, h1, rfl, rfl⟩ := more_some h
        obtain ⟨g1, g2, g3⟩ := escOf_good he
        obtain ⟨i1, i2, i3, i4⟩ := unqF_good f _ ts j h1
        rw [List.length_drop] at i3
        refine ⟨by rw [List.all_cons, g1, i1]; rfl, by omega, by rw [List.length_cons]; omega, ?_⟩
        rw [← i4]
        simp only [List.getD, List.getElem?_drop]
        rw [show 1 + n + j - 1 = (n + (j - 1)) + 1 by omega, List.getElem?_cons_succ]
    split at h
    · cases h
    · rename_i hd
      obtain ⟨ts, j, h1, rfl, rfl⟩ := more_some h
      have hv := Lib.decodeN_valid (b :: t).length ((b :: t).getD 0 0).toNat ((b :: t).getD 1 0).toNat ((b :: t).getD 2 0).toNat ((b :: t).getD 3 0).toNat (UInt8.toNat_lt _)
      rw [← Lib.decodeL_N] at hv
      have hg : good ((Lib.decodeL (b :: t)).1 : Int) = true := by rw [good_iff]; omega
      have hp := decodeL_pos (b :: t)
      have hle := decode_len (b :: t) (by simp)
      obtain ⟨i1, i2, i3, i4⟩ := unqF_good f _ ts j h1
      generalize (Lib.decodeL (b :: t)).2 = n at *
      rw [List.length_drop] at i3
      refine ⟨by rw [List.all_cons, hg, i1]; rfl, by omega, by omega, ?_⟩
      rw [← i4]
      simp only [List.getD, List.getElem?_drop]
      rw [show n + j - 1 = n + (j - 1) by omega]
/-- nothing shorter at the front is read -/
theorem unqF_cut : ∀ (f : Nat) (l : List UInt8) (rs : List Int) (k : Nat), unqF f l = some (rs, k) → ∀ g, unqF g (l.take (k - 1)) = none
  | 0, l, rs, k, h, g => by cases h
  | f + 1, [], rs, k, h, g => by cases h
  | f + 1, b :: t, rs, k, h, 0 => rfl
  | f + 1, b :: t, rs, k, h, g + 1 => by
    unfold unqF at h
    split at h
    · obtain ⟨rfl, rfl⟩ := Prod.mk.inj (Option.some.inj h)
      rfl
    rename_i b1
    split at h
    · cases h
    rename_i b2
    split at h
    · rename_i b3
      split at h
      · cases h
      · rename_i r n he
        obtain ⟨ts, j, h1, rfl, rfl⟩ := more_some h
        obtain ⟨g1, g2, g3⟩ := escOf_good he
        have hj := (unqF_good f _ ts j h1).2.1
        have ih := unqF_cut f _ ts j h1 g
        rw [show 1 + n + j - 1 = (n + (j - 1)) + 1 by omega, List.take_succ_cons]
        unfold unqF
        rw [if_neg b1, if_neg b2, if_pos b3, escOf_take he (n + (j - 1)) (by omega)]
        simp only
        rw [List.drop_take, show n + (j - 1) - n = j - 1 by omega, ih]; rfl
    rename_i b3
    split at h
    · cases h
    · rename_i hd
      obtain ⟨ts, j, h1, rfl, rfl⟩ := more_some h
      have hj := (unqF_good f _ ts j h1).2.1
      have hp := decodeL_pos (b :: t)
      have ih := unqF_cut f _ ts j h1 g
      have hdt := decode_take (l := b :: t) (by simp) hd ((Lib.decodeL (b :: t)).2 + j - 1) (by omega)
      obtain ⟨n, hn⟩ : ∃ n, n = (Lib.decodeL (b :: t)).2 := ⟨_, rfl⟩
      rw [← hn] at hdt hp ih
      obtain ⟨m, hm⟩ : ∃ m, n + j - 1 = m + 1 := ⟨n + j - 2, by omega⟩
      rw [← hn, hm] 
      rw [hm, List.take_succ_cons] at hdt
      rw [List.take_succ_cons]
      unfold unqF
      rw [if_neg b1, if_neg b2, if_neg b3, hdt, if_neg hd, ← hn]
      have e : (b :: t.take m).drop n = ((b :: t).drop n).take (j - 1) := by
        rw [← List.take_succ_cons, List.drop_take, show m + 1 - n = j - 1 by omega]
      rw [e, ih]; rfl

theorem enc_ascii (r : Int) (h0 : 0 ≤ r) (h1 : r ≤ 127) : Lib.encodeRune r = [r.toNat.toUInt8] := by
  unfold Lib.encodeRune; rw [Lib.encodeRuneZ_one h0 h1]; rfl
/-- a rune's first byte is itself, or no sign's -/
theorem enc_high (r : Int) (hg : good r = true) (h : 128 ≤ r) : ∀ b ∈ Lib.encodeRune r, 128 ≤ b.toNat := by
  rw [good_iff] at hg
  have key : ∀ z : Int, 128 ≤ z → z < 256 → 128 ≤ (z.toNat.toUInt8).toNat := by
    intro z h0 h1; rw [byteNat z (by omega) h1]; omega
  intro b hb
  unfold Lib.encodeRune at hb
  by_cases r2 : r ≤ 2047
  · rw [Lib.encodeRuneZ_two (by omega) r2] at hb
    simp only [List.map_cons, List.map_nil, List.mem_cons, List.not_mem_nil, or_false] at hb
    rcases hb with rfl | rfl <;> exact key _ (by omega) (by omega)
  by_cases r3 : r ≤ 65535
  · rw [Lib.encodeRuneZ_three (by omega)] at hb
    simp only [List.map_cons, List.map_nil, List.mem_cons, List.not_mem_nil, or_false] at hb
    rcases hb with rfl | rfl | rfl <;> exact key _ (by omega) (by omega)
  · rw [Lib.encodeRuneZ_four (by omega) (by omega)] at hb
    simp only [List.map_cons, List.map_nil, List.mem_cons, List.not_mem_nil, or_false] at hb
    rcases hb with rfl | rfl | rfl | rfl <;> exact key _ (by omega) (by omega)
/-- a rune that is told as it is -/
theorem unqF_rune (f : Nat) (r : Int) (hg : good r = true) (hp : ¬ (r < 32) ∧ r ≠ 34 ∧ r ≠ 92) (y : List UInt8) :
    unqF (f + 1) (Lib.encodeRune r ++ y) = more r (Lib.encodeRune r).length (unqF f y) := by
  have hd := decode_enc r hg y
  have hb := not_bad r hg y
  obtain ⟨b, t, hbt, h34, h10, h92⟩ : ∃ b t, Lib.encodeRune r = b :: t ∧ b ≠ 34 ∧ b ≠ 10 ∧ b ≠ 92 := by
    rcases Int.lt_or_le r 128 with h | h
    · refine ⟨_, [], enc_ascii r (by omega) (by omega), ?_⟩
      have hn := byteNat r (by omega) (by omega)
      refine ⟨?_, ?_, ?_⟩ <;> (intro hc; rw [hc] at hn; revert hn; simp; omega)
    · have hh := enc_high r hg h
      have hl := (enc_len r).1
      cases he : Lib.encodeRune r with
      | nil => rw [he] at hl; simp at hl
      | cons b t =>
        have := hh b (by rw [he]; simp)
        refine ⟨b, t, rfl, ?_, ?_, ?_⟩ <;> (rintro rfl; revert this; decide)
  rw [hbt, List.cons_append] at hd hb ⊢
  conv => lhs; unfold unqF
  rw [if_neg h34, if_neg h10, if_neg h92, if_neg hb, hd]
  simp only
  rw [← List.cons_append, List.drop_left]
  rw [good_iff] at hg
  rw [show ((r.toNat : Nat) : Int) = r by omega]
theorem unqF_esc (f : Nat) (t y : List UInt8) (r : Int) (n : Nat) (h : escOf (t ++ y) = some (r, n)) (hn : n = t.length) : unqF (f + 1) (92 :: (t ++ y)) = more r (1 + n) (unqF f y) := by
  conv => lhs; unfold unqF
  rw [if_neg (by decide), if_neg (by decide), if_pos rfl, h]
  simp only
  rw [hn, List.drop_left]
theorem unqF_quoteR (f : Nat) (r : Int) (hg : good r = true) (y : List UInt8) : unqF (f + 1) (quoteR r ++ y) = more r (quoteR r).length (unqF f y) := by
  have hg2 := hg
  rw [good_iff] at hg2
  unfold quoteR
  by_cases c1 : r = 34 ∨ r = 92
  · rw [if_pos c1, List.cons_append, enc_ascii r (by omega) (by omega)]
    rw [unqF_esc f [r.toNat.toUInt8] y r 1 (by rcases c1 with rfl | rfl <;> rfl) rfl]; rfl
  rw [if_neg c1]
  by_cases c2 : r = 10
  · rw [if_pos c2]; subst c2; exact unqF_esc f [110] y 10 1 rfl rfl
  rw [if_neg c2]
  by_cases c3 : r = 9
  · rw [if_pos c3]; subst c3; exact unqF_esc f [116] y 9 1 rfl rfl
  rw [if_neg c3]
  by_cases c4 : r = 13
  · rw [if_pos c4]; subst c4; exact unqF_esc f [114] y 13 1 rfl rfl
  rw [if_neg c4]
  by_cases c5 : r < 32 ∨ r = 127
  · rw [if_pos c5]
    obtain ⟨n, rfl⟩ := Int.eq_ofNat_of_zero_le hg2.1
    have hn : n < 128 := by omega
    obtain ⟨x1, x2, x3, x4⟩ := hexText_facts n hn
    rw [show ((n : Int)).natAbs = n from rfl]
    have e : [92, 117, 123] ++ hexText n ++ [125] ++ y = 92 :: (([117, 123] ++ hexText n ++ [125]) ++ y) := by simp
    have hi : Lib.indexByte ((([117, 123] ++ hexText n ++ [125]) ++ y).drop 2) 125 = ((hexText n).length : Int) := by
      have : (([117, 123] ++ hexText n ++ [125]) ++ y).drop 2 = hexText n ++ 125 :: y := by simp
      rw [this]; exact indexByte_skip 125 _ _ (fun x hx => (x4 x hx).2.1)
    have hes : escOf (([117, 123] ++ hexText n ++ [125]) ++ y) = some ((n : Int), 3 + (hexText n).length) := by
      have : escOf (([117, 123] ++ hexText n ++ [125]) ++ y) = uOf (([117, 123] ++ hexText n ++ [125]) ++ y) := rfl
      rw [this]
      unfold uOf
      rw [hi, Int.toNat_natCast, if_pos (by simp [Lib.hasPrefix, List.isPrefixOf]), if_neg (by omega)]
      have e2 : ((([117, 123] ++ hexText n ++ [125]) ++ y).drop 2).take (hexText n).length = hexText n := by simp
      rw [e2, x1]
      simp only
      rw [if_pos hg]
    rw [e, unqF_esc f _ y _ _ hes (by simp; omega)]
    congr 1
    simp; omega
  · rw [if_neg c5]
    exact unqF_rune f r hg ⟨by omega, by omega, by omega⟩ y
/-- what was told is read, whatever stands behind -/
theorem unqF_quotes : ∀ (rs : List Int) (f : Nat) (x : List UInt8), rs.all good = true → rs.length < f → unqF f (quotes rs ++ 34 :: x) = some (rs, (quotes rs).length + 1)
  | [], f, x, _, hf => by
    obtain ⟨g, rfl⟩ : ∃ g, f = g + 1 := ⟨f - 1, by omega⟩
    rfl
  | r :: rs, f, x, hg, hf => by
    obtain ⟨g, rfl⟩ : ∃ g, f = g + 1 := ⟨f - 1, by omega⟩
    rw [List.all_cons, Bool.and_eq_true] at hg
    have e : quotes (r :: rs) = quoteR r ++ quotes rs := rfl
    rw [e, List.append_assoc, unqF_quoteR g r hg.1, unqF_quotes rs g x hg.2 (by rw [List.length_cons] at hf; omega)]
    unfold more
    simp
    omega
theorem quoteR_len (r : Int) : 1 ≤ (quoteR r).length := by
  have := (enc_len r).1
  unfold quoteR
  repeat' split
  all_goals simp
  all_goals omega
theorem quotes_len (rs : List Int) : rs.length ≤ (quotes rs).length := by
  induction rs with
  | nil => simp
  | cons r rs ih =>
    have := quoteR_len r
    have e : quotes (r :: rs) = quoteR r ++ quotes rs := rfl
    rw [e, List.length_append, List.length_cons]; omega
theorem unquote_quote (rs : List Int) (hg : rs.all good = true) (x : List UInt8) : unquote (quoteOf rs ++ x) = some (rs, (quoteOf rs).length) := by
  unfold unquote quoteOf
  have h := quotes_len rs
  rw [if_pos (by simp [Lib.hasPrefix, List.isPrefixOf])]
  have e : (34 :: (quotes rs ++ [34]) ++ x).drop 1 = quotes rs ++ 34 :: x := by simp
  rw [e, unqF_quotes rs _ x hg (by simp; omega)]
  simp

theorem okText_ascii (c : UInt8) (hc : c.toNat < 128) (x : List UInt8) : okText (c :: x) ↔ okText x := by
  have h := okText_code (c.toNat : Int) (by rw [good_iff]; omega) x
  rw [enc_ascii _ (by omega) (by omega)] at h
  have e : ((c.toNat : Int)).toNat.toUInt8 = c := by simp
  rw [e] at h
  exact h
theorem okText_asciis (l : List UInt8) (hl : ∀ c ∈ l, c.toNat < 128) (x : List UInt8) : okText (l ++ x) ↔ okText x := by
  induction l with
  | nil => exact Iff.rfl
  | cons c l ih =>
    rw [List.cons_append, okText_ascii c (hl c (by simp)), ih (fun c hc => hl c (by simp [hc]))]
theorem quoteR_ok (r : Int) (hg : good r = true) (x : List UInt8) : okText (quoteR r ++ x) ↔ okText x := by
  have hg2 := hg
  rw [good_iff] at hg2
  unfold quoteR
  split
  · rw [List.cons_append, okText_ascii 92 (by decide), okText_code r hg]
  split
  · exact okText_asciis _ (by decide) x
  split
  · exact okText_asciis _ (by decide) x
  split
  · exact okText_asciis _ (by decide) x
  split
  · refine okText_asciis _ ?_ x
    obtain ⟨-, -, -, x4⟩ := hexText_facts r.natAbs (by omega)
    intro c hc
    simp only [List.mem_append, List.mem_cons, List.not_mem_nil, or_false] at hc
    rcases hc with (hc | hc) | hc
    · rcases hc with rfl | rfl | rfl <;> decide
    · exact (x4 c hc).1
    · subst hc; decide
  · exact okText_code r hg x
theorem quoteR_ten (r : Int) (hg : good r = true) : (10 : UInt8) ∉ quoteR r := by
  have hg2 := hg
  rw [good_iff] at hg2
  have henc : r ≠ 10 → (10 : UInt8) ∉ Lib.encodeRune r := by
    intro h10 hm
    rcases Int.lt_or_le r 128 with h | h
    · rw [enc_ascii r (by omega) (by omega), List.mem_singleton] at hm
      have hn := byteNat r (by omega) (by omega)
      rw [← hm] at hn
      revert hn; simp; omega
    · have := enc_high r hg h 10 hm
      revert this; decide
  unfold quoteR
  split
  · rename_i hc
    intro hm
    rcases List.mem_cons.1 hm with h | h
    · revert h; decide
    · exact henc (by omega) h
  rename_i c1
  split
  · decide
  rename_i c2
  split
  · decide
  split
  · decide
  split
  · obtain ⟨-, -, -, x4⟩ := hexText_facts r.natAbs (by omega)
    intro hc
    simp only [List.mem_append, List.mem_cons, List.not_mem_nil, or_false] at hc
    rcases hc with (hc | hc) | hc
    · revert hc; decide
    · exact (x4 10 hc).2.2 rfl
    · revert hc; decide
  · exact henc c2
theorem quotes_ok (rs : List Int) (hg : rs.all good = true) (x : List UInt8) : okText (quotes rs ++ x) ↔ okText x := by
  induction rs with
  | nil => exact Iff.rfl
  | cons r rs ih =>
    rw [List.all_cons, Bool.and_eq_true] at hg
    have e : quotes (r :: rs) = quoteR r ++ quotes rs := rfl
    rw [e, List.append_assoc, quoteR_ok r hg.1, ih hg.2]
theorem quoteOf_ok (rs : List Int) (hg : rs.all good = true) : okText (quoteOf rs) ∧ (10 : UInt8) ∉ quoteOf rs := by
  refine ⟨?_, ?_⟩
  · unfold quoteOf
    rw [okText_ascii 34 (by decide), quotes_ok rs hg, okText_ascii 34 (by decide)]
    exact okText_nil
  · unfold quoteOf quotes
    intro hm
    simp only [List.mem_cons, List.mem_append, List.mem_flatMap, List.not_mem_nil, or_false] at hm
    rcases hm with h | ⟨r, hr, h⟩ | h
    · revert h; decide
    · exact quoteR_ten r (List.all_eq_true.1 hg r hr) h
    · revert h; decide
/-- what is said between quotes -/
theorem unquote_facts {q : List UInt8} {rs : List Int} {n : Nat} (h : unquote q = some (rs, n)) : rs.all good = true ∧ 2 ≤ n ∧ n ≤ q.length ∧ q.getD (n - 1) 0 = 34 ∧ unquote (q.take (n - 1)) = none := by
  unfold unquote at h
  split at h
  · rename_i hp
    obtain ⟨⟨ts, k⟩, h1, h2⟩ := Option.map_eq_some_iff.1 h
    obtain ⟨rfl, rfl⟩ := Prod.mk.inj h2
    obtain ⟨i1, i2, i3, i4⟩ := unqF_good _ _ _ _ h1
    rw [List.length_drop] at i3
    refine ⟨i1, by omega, by omega, ?_, ?_⟩
    · rw [← i4]
      simp only [List.getD, List.getElem?_drop]
      rw [show k + 1 - 1 = 1 + (k - 1) by omega]
    · unfold unquote
      rw [if_pos (hasPrefix_take _ hp (by show 1 ≤ _; omega)), List.drop_take, show k + 1 - 1 - 1 = k - 1 by omega, unqF_cut _ _ _ _ h1]
      rfl
  · cases h
theorem quoteR_le (r : Int) (hg : good r = true) : (quoteR r).length ≤ 6 * (Lib.encodeRune r).length := by
  have h1 := enc_len r
  rw [good_iff] at hg
  unfold quoteR
  repeat' split
  all_goals simp
  all_goals first | omega | (rename_i hc; obtain ⟨-, -, x3, -⟩ := hexText_facts r.natAbs (by omega); omega)
theorem quotes_le (rs : List Int) (hg : rs.all good = true) : (quotes rs).length ≤ 6 * (encs rs).length := by
  induction rs with
  | nil => simp [quotes]
  | cons r rs ih =>
    rw [List.all_cons, Bool.and_eq_true] at hg
    have := quoteR_le r hg.1
    have := ih hg.2
    have e : quotes (r :: rs) = quoteR r ++ quotes rs := rfl
    rw [e, encs_cons, List.length_append, List.length_append]; omega
theorem quoteOf_le (rs : List Int) (hg : rs.all good = true) : (quoteOf rs).length ≤ 6 * (encs rs).length + 2 := by
  have := quotes_le rs hg
  unfold quoteOf
  simp
  omega
end Go.Proofs.YtldhmfkojaekfaaGreatDoor
namespace Go.Proofs.YtldhmfkojaekfaaGreatDoor
open Go.RowKit Gx

def letterB (c : Nat) : Bool := (decide (97 ≤ c) && decide (c ≤ 122)) || (decide (65 ≤ c) && decide (c ≤ 90)) || decide (c = 95)
def moreB (c : Nat) : Bool := (decide (48 ≤ c) && decide (c ≤ 57)) || decide (c = 45)
def bareFrom : Bool → List UInt8 → Bool
  | _, [] => true
  | first, c :: t => (letterB c.toNat || (moreB c.toNat && !first)) && bareFrom false t
def wordB (l : List UInt8) : Bool := (l == [110, 117, 108, 108]) || (l == [116, 114, 117, 101]) || (l == [102, 97, 108, 115, 101]) || (l == [110, 97, 110]) || (l == [105, 110, 102])
/-- is it a bare key? -/
def bareOf (l : List UInt8) : Bool := decide (l ≠ []) && decide (l.length ≤ 100) && bareFrom true l && !wordB l
theorem bareFrom_ascii : ∀ (b : Bool) (l : List UInt8), bareFrom b l = true → ∀ c ∈ l, c.toNat < 128
  | _, [], _, c, hc => by simp at hc
  | b, a :: t, h, c, hc => by
    unfold bareFrom at h
    rw [Bool.and_eq_true] at h
    rcases List.mem_cons.1 hc with rfl | hc
    · have h1 := h.1
      unfold letterB moreB at h1
      simp only [Bool.or_eq_true, Bool.and_eq_true, decide_eq_true_eq] at h1
      omega
    · exact bareFrom_ascii false t h.2 c hc
theorem bare_ok {l : List UInt8} (h : bareOf l = true) : okText l := by
  unfold bareOf at h
  simp only [Bool.and_eq_true] at h
  have h2 := (okText_asciis l (bareFrom_ascii true l h.1.2) []).2 okText_nil
  rwa [List.append_nil] at h2

theorem bareFrom_bytes : ∀ (b : Bool) (l : List UInt8), bareFrom b l = true → ∀ c ∈ l, (letterB c.toNat || moreB c.toNat) = true
  | _, [], _, c, hc => by simp at hc
  | b, a :: t, h, c, hc => by
    unfold bareFrom at h
    rw [Bool.and_eq_true] at h
    rcases List.mem_cons.1 hc with rfl | hc
    · have h1 := h.1
      cases hl : letterB c.toNat with
      | true => rfl
      | false =>
        rw [hl] at h1
        simp only [Bool.false_or, Bool.and_eq_true] at h1
        rw [h1.1]; rfl
    · exact bareFrom_bytes false t h.2 c hc
theorem bare_bytes {l : List UInt8} (h : bareOf l = true) : ∀ c ∈ l, (letterB c.toNat || moreB c.toNat) = true := by
  unfold bareOf at h
  simp only [Bool.and_eq_true] at h
  exact bareFrom_bytes true l h.1.2
end Go.Proofs.YtldhmfkojaekfaaGreatDoor
namespace Go.Proofs.YtldhmfkojaekfaaGreatDoor
open Go.RowKit Gx

def V.nodes (v : V) : Nat := 1 + ((v.l.attach.map fun x => V.nodes x.1).sum + (v.e.attach.map fun x => V.nodes x.1.2).sum)
termination_by SizeOf.sizeOf v
decreasing_by
  · exact V.lt_l x.2
  · exact V.lt_e x.2
theorem attach_map' {α β : Type} (l : List α) (g : α → β) : (l.attach.map fun x => g x.1) = l.map g := by
  have h : l.attach.map Subtype.val = l := List.attach_map_subtype_val l
  calc (l.attach.map fun x => g x.1) = (l.attach.map Subtype.val).map g := by rw [List.map_map]; rfl
    _ = l.map g := by rw [h]
def nodesL (l : List V) : Nat := (l.map V.nodes).sum
theorem nodes_eq (v : V) : v.nodes = 1 + nodesL v.parts := by
  rw [V.nodes, attach_map' v.l V.nodes, attach_map' v.e (fun x => x.2.nodes)]
  unfold nodesL V.parts
  rw [List.map_append, List.map_map, List.sum_append]
  rfl
theorem nodesL_nil : nodesL [] = 0 := rfl
theorem nodesL_snoc (l : List V) (x : V) : nodesL (l ++ [x]) = nodesL l + x.nodes := by simp [nodesL]
theorem nodesL_app (l m : List V) : nodesL (l ++ m) = nodesL l + nodesL m := by simp [nodesL]
theorem nodesL_cons (x : V) (l : List V) : nodesL (x :: l) = x.nodes + nodesL l := by simp [nodesL]
theorem nodesL_mem : ∀ {l : List V} {x : V}, x ∈ l → x.nodes ≤ nodesL l
  | [], x, h => by cases h
  | y :: l, x, h => by
    rw [nodesL_cons]
    rcases List.mem_cons.1 h with rfl | h
    · omega
    · have := nodesL_mem h; omega
theorem nodes_part {v x : V} (h : x ∈ v.parts) : x.nodes < v.nodes := by
  rw [nodes_eq v]; have := nodesL_mem h; omega
end Go.Proofs.YtldhmfkojaekfaaGreatDoor
