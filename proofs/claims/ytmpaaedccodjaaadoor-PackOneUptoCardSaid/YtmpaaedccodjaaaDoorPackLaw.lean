/-
  The bytes of a value, plainly; how many they are. No conditions.
-/
import Derived.Test.YtmpaaedccodjaaaDoorChkLaw
import Derived.Test.YtmpaaedccodjaaaDoorChainB
namespace Go.Proofs.YtmpaaedccodjaaaDoor
open Go.RowKit Gx

theorem attach_flatMap {α β : Type} (l : List α) (g : α → List β) : (l.attach.flatMap fun x => g x.1) = l.flatMap g := by
  have h : l.attach.map Subtype.val = l := List.attach_map_subtype_val l
  calc (l.attach.flatMap fun x => g x.1) = (l.attach.map Subtype.val).flatMap g := by rw [List.flatMap_map]
    _ = l.flatMap g := by rw [h]
/-- the bytes of a fraction's bits -/
def fbits (f : Int) : Int := if f < 9223372036854775808 then f + 9223372036854775808 else 18446744073709551615 - f
/-- the bytes of a value -/
def V.pk (v : V) : List Int :=
  (v.k + 1) :: (if v.k = 1 then [v.n] else if v.k = 2 then wordB (v.n + 9223372036854775808) else if v.k = 3 then wordB (fbits v.f) else if v.k = 4 then chainB v.s.data.toList
    else if v.k = 5 then (v.l.attach.flatMap fun x => 1 :: V.pk x.1) ++ [0]
    else if v.k = 6 then (v.e.attach.flatMap fun x => 1 :: (chainB x.1.1.data.toList ++ V.pk x.1.2)) ++ [0] else [])
termination_by SizeOf.sizeOf v
decreasing_by
  · exact V.lt_l x.2
  · exact V.lt_e x.2
def pkL (l : List V) : List Int := l.flatMap fun x => 1 :: x.pk
def pkE (e : List (ByteArray × V)) : List Int := e.flatMap fun x => 1 :: (chainB x.1.data.toList ++ x.2.pk)
theorem pk_eq (v : V) : v.pk = (v.k + 1) :: (if v.k = 1 then [v.n] else if v.k = 2 then wordB (v.n + 9223372036854775808) else if v.k = 3 then wordB (fbits v.f) else if v.k = 4 then chainB v.s.data.toList
    else if v.k = 5 then pkL v.l ++ [0] else if v.k = 6 then pkE v.e ++ [0] else []) := by
  rw [V.pk, attach_flatMap v.l (fun x => 1 :: x.pk), attach_flatMap v.e (fun x => 1 :: (chainB x.1.data.toList ++ x.2.pk))]
  rfl
theorem pkL_snoc (l : List V) (x : V) : pkL (l ++ [x]) = pkL l ++ (1 :: x.pk) := by simp [pkL]
theorem pkE_snoc (l : List (ByteArray × V)) (x : ByteArray × V) : pkE (l ++ [x]) = pkE l ++ (1 :: (chainB x.1.data.toList ++ x.2.pk)) := by simp [pkE]

/-- a good value -/
inductive Good : V → Prop
  | mk (v : V) (h : ownV v = 0) (hk : keyE none v.e = 0) (hl : ∀ x ∈ v.l, Good x) (he : ∀ x ∈ v.e, Good x.2) : Good v
theorem Good.own {v : V} (h : Good v) : ownV v = 0 := by cases h; assumption
theorem Good.keys {v : V} (h : Good v) : keyE none v.e = 0 := by cases h; assumption
theorem Good.l {v : V} (h : Good v) : ∀ x ∈ v.l, Good x := by cases h; assumption
theorem Good.e {v : V} (h : Good v) : ∀ x ∈ v.e, Good x.2 := by cases h; assumption
theorem ownV_zero {v : V} (h : ownV v = 0) : kindBad v.k v.n v.f v.s v.l.length v.e.length = false ∧ v.s.size ≤ 4000 ∧ v.l.length ≤ 200 ∧ v.e.length ≤ 200 ∧ okText v.s.data.toList := by
  unfold ownV ownE at h
  by_cases h1 : kindBad v.k v.n v.f v.s v.l.length v.e.length = true
  · rw [if_pos h1] at h; cases h
  rw [if_neg h1] at h
  by_cases h2 : 4000 < v.s.size ∨ 200 < v.l.length ∨ 200 < v.e.length
  · rw [if_pos h2] at h; cases h
  rw [if_neg h2] at h
  by_cases h3 : okText v.s.data.toList
  · exact ⟨by simpa using h1, by omega, by omega, by omega, h3⟩
  · rw [if_neg h3] at h; cases h
/-- what a good value's own numbers are -/
structure OwnOk (v : V) : Prop where
  k0 : 0 ≤ v.k
  k6 : v.k ≤ 6
  n : v.k ≠ 1 → v.k ≠ 2 → v.n = 0
  n1 : v.k = 1 → v.n = 0 ∨ v.n = 1
  f : v.k ≠ 3 → v.f = 0
  s : v.k ≠ 4 → v.s = ⟨#[]⟩
  l : v.k ≠ 5 → v.l = []
  e : v.k ≠ 6 → v.e = []
  nan : nanBad v.f = false
theorem kindBad_ok {v : V} (h : kindBad v.k v.n v.f v.s v.l.length v.e.length = false) : OwnOk v := by
  unfold kindBad at h
  simp only [Bool.or_eq_false_iff, Bool.and_eq_false_iff, decide_eq_false_iff_not, bne_eq_false_iff_eq, Bool.not_eq_false', beq_iff_eq, Bool.or_eq_true, beq_eq_false_iff_ne, Bool.not_eq_eq_eq_not, Bool.not_true] at h
  obtain ⟨⟨⟨⟨⟨⟨⟨⟨h1, h2⟩, h3⟩, h4⟩, h5⟩, h6⟩, h7⟩, h8⟩, h9⟩ := h
  refine ⟨by omega, by omega, fun a b => ?_, fun a => ?_, fun a => ?_, fun a => ?_, fun a => ?_, fun a => ?_, h6⟩
  · rcases h3 with h3 | h3
    · simp at h3; omega
    · exact h3
  · omega
  · omega
  · rcases h7 with h7 | h7
    · exact absurd h7 a
    · exact empty_of (by simpa using h7)
  · rcases h8 with h8 | h8
    · exact absurd h8 a
    · exact List.eq_nil_of_length_eq_zero (by omega)
  · rcases h9 with h9 | h9
    · exact absurd h9 a
    · exact List.eq_nil_of_length_eq_zero (by omega)
theorem Good.ok {v : V} (h : Good v) : OwnOk v := kindBad_ok (ownV_zero h.own).1
/-- keys are short -/
theorem keyE_short : ∀ (e : List (ByteArray × V)) (p : Option ByteArray), keyE p e = 0 → ∀ x ∈ e, x.1.size ≤ 100 ∧ okText x.1.data.toList
  | [], _, _, x, hx => by cases hx
  | y :: e, p, h, x, hx => by
    rw [keyE] at h
    by_cases h1 : 100 < y.1.size
    · rw [if_pos h1] at h; cases h
    rw [if_neg h1] at h
    by_cases h2 : okText y.1.data.toList
    · rw [if_neg (fun g => g h2)] at h
      by_cases h3 : keyBad p y.1 = true
      · rw [if_pos h3] at h; cases h
      rw [if_neg h3] at h
      rcases List.mem_cons.1 hx with rfl | hx
      · exact ⟨by omega, h2⟩
      · exact keyE_short e _ h x hx
    · rw [if_pos h2] at h; cases h
/-- what check counts bounds the bytes -/
theorem pk_len_all {f : V → Nat → Nat × Nat} (hf : ∀ x m, (f x m).1 = 0 → Good x ∧ x.pk.length + 203 + 9000 * m ≤ 9000 * (f x m).2) : ∀ (xs : List V) (m : Nat), (chkAll f xs m).1 = 0 →
    (∀ x ∈ xs, Good x) ∧ (xs.map fun x => x.pk.length + 203).sum + 9000 * m ≤ 9000 * (chkAll f xs m).2
  | [], m, _ => ⟨fun x hx => (by cases hx), by simp [chkAll]⟩
  | x :: xs, m, h => by
    have e : chkAll f (x :: xs) m = if (f x m).1 = 0 then chkAll f xs (f x m).2 else f x m := rfl
    rw [e] at h ⊢
    by_cases h1 : (f x m).1 = 0
    · rw [if_pos h1] at h ⊢
      obtain ⟨g1, g2⟩ := hf x m h1
      obtain ⟨i1, i2⟩ := pk_len_all hf xs _ h
      refine ⟨fun y hy => ?_, ?_⟩
      · rcases List.mem_cons.1 hy with rfl | hy
        · exact g1
        · exact i1 y hy
      · rw [List.map_cons, List.sum_cons]; omega
    · rw [if_neg h1] at h; exact absurd h h1
theorem pkL_len (l : List V) : (pkL l).length ≤ (l.map fun x => x.pk.length + 203).sum := by
  induction l with
  | nil => simp [pkL]
  | cons x l ih =>
    have : pkL (x :: l) = (1 :: x.pk) ++ pkL l := rfl
    rw [this, List.length_append, List.map_cons, List.sum_cons, List.length_cons]; omega
theorem pkE_len (l : List (ByteArray × V)) (h : ∀ x ∈ l, x.1.size ≤ 100) : (pkE l).length ≤ ((l.map Prod.snd).map fun x => x.pk.length + 203).sum := by
  induction l with
  | nil => simp [pkE]
  | cons x l ih =>
    have : pkE (x :: l) = (1 :: (chainB x.1.data.toList ++ x.2.pk)) ++ pkE l := rfl
    have h1 := h x (by simp)
    have h2 := chainB_len x.1.data.toList
    have h3 : x.1.data.toList.length = x.1.size := rfl
    have h4 := ih (fun y hy => h y (by simp [hy]))
    rw [this, List.length_append, List.map_cons, List.map_cons, List.sum_cons, List.length_cons, List.length_append]; omega
theorem pk_len : ∀ (d : Nat) (v : V) (m : Nat), (chk d v m).1 = 0 → Good v ∧ v.pk.length + 203 + 9000 * m ≤ 9000 * (chk d v m).2
  | 0, v, m, h => by simp only [chk] at h; split at h <;> cases h
  | d + 1, v, m, h => by
    simp only [chk] at h ⊢
    by_cases h1 : 2000 < m + 1
    · rw [if_pos h1] at h; cases h
    rw [if_neg h1] at h ⊢
    by_cases h2 : ownV v ≠ 0
    · rw [if_pos h2] at h; exact absurd h h2
    rw [if_neg h2] at h ⊢
    by_cases h3 : keyE none v.e ≠ 0
    · rw [if_pos h3] at h; exact absurd h h3
    rw [if_neg h3] at h ⊢
    obtain ⟨g1, g2⟩ := pk_len_all (pk_len d) _ _ h
    have h2' : ownV v = 0 := by omega
    have h3' : keyE none v.e = 0 := by omega
    refine ⟨.mk v h2' h3' (fun x hx => g1 x (List.mem_append_left _ hx)) (fun x hx => g1 x.2 (List.mem_append_right _ (List.mem_map_of_mem hx))), ?_⟩
    generalize (chkAll (chk d) v.parts (m + 1)).2 = z at g2 ⊢
    rw [V.parts, List.map_append, List.sum_append] at g2
    have k1 := pkL_len v.l
    have k2 := pkE_len v.e (fun x hx => (keyE_short v.e none h3' x hx).1)
    have k3 := chainB_len v.s.data.toList
    have k4 := (ownV_zero h2').2.1
    have k5 : v.s.data.toList.length = v.s.size := rfl
    have k6 : ∀ n, (wordB n).length = 8 := wordB_len
    rw [pk_eq, List.length_cons]
    split
    · simp only [List.length_cons, List.length_nil]; omega
    split
    · rw [k6]; omega
    split
    · rw [k6]; omega
    split
    · omega
    split
    · rw [List.length_append, List.length_cons, List.length_nil]; omega
    split
    · rw [List.length_append, List.length_cons, List.length_nil]; omega
    · simp only [List.length_nil]; omega
theorem chkV_good {v : V} (h : chkV v = 0) : Good v ∧ v.pk.length ≤ 18000000 := by
  obtain ⟨g1, g2⟩ := pk_len 20 v 0 h
  have := (chk_le 20 v 0 (by decide)).2 h
  exact ⟨g1, by omega⟩
end Go.Proofs.YtmpaaedccodjaaaDoor
