/-
  Plain law: links and ways; searching breadth first from the end finds how many links lead from each version. No conditions.
-/
import Derived.Test.YtgcpnckdcdhflaaGx
namespace Go.Proofs.Ytgcpnckdcdhflaa

abbrev Links := List (Int × Int)

/-- these links lead, one behind the other, from a to b -/
def Leads (L : Links) : List Nat → Int → Int → Prop
  | [], a, b => a = b
  | i :: r, a, b => ∃ p, L[i]? = some p ∧ p.1 = a ∧ Leads L r p.2 b

/-- how many links begin at a version that is not known -/
def unk (L : Links) (f : Int → Option Nat) : Nat := L.countP fun l => (f l.1).isNone

/-- the search, k links of the first one in the queue looked at; p were added -/
structure Bfs (L : Links) (to : Int) (f : Int → Option Nat) (q : List (Int × Nat)) (p k : Nat) : Prop where
  i1 : f to = some 0
  i2 : ∀ x d, f x = some d → (x = to ∧ d = 0) ∨ ∃ y e, (x, y) ∈ L ∧ f y = some e ∧ d = e + 1
  i3 : ∀ z ∈ q, f z.1 = some z.2
  i4 : q.Pairwise fun a b => a.2 ≤ b.2
  i5 : ∀ h r, q = h :: r → ∀ x d, f x = some d → d ≤ h.2 + 1
  i6 : ∀ y e, f y = some e → (∀ z ∈ q, z.1 ≠ y) → ∀ x, (x, y) ∈ L → ∃ d, f x = some d ∧ d ≤ e + 1
  i7 : ∀ h r, q = h :: r → ∀ j, j < k → ∀ x, L[j]? = some (x, h.1) → ∃ d, f x = some d
  i8 : ∀ x d, f x = some d → d ≤ p
  i9 : p + unk L f ≤ L.length

def put1 (f : Int → Option Nat) (x : Int) (d : Nat) : Int → Option Nat := fun y => if y = x then some d else f y

theorem bfs_start (L : Links) (to : Int) : Bfs L to (put1 (fun _ => none) to 0) [(to, 0)] 0 0 := by
  refine ⟨by simp [put1], fun x d h => ?_, fun z hz => ?_, by simp, fun h r e x d hx => ?_, fun y e hy hz => ?_, fun h r e j hj => ?_, fun x d h => ?_, ?_⟩
  · unfold put1 at h
    split at h
    · rename_i hx; cases h; exact .inl ⟨hx, rfl⟩
    · cases h
  · simp at hz; subst hz; simp [put1]
  · unfold put1 at hx
    split at hx
    · cases hx; omega
    · cases hx
  · unfold put1 at hy
    split at hy
    · rename_i hx; exact absurd hx.symm (hz (to, 0) (by simp))
    · cases hy
  · omega
  · unfold put1 at h
    split at h
    · cases h; omega
    · cases h
  · rw [Nat.zero_add]; exact List.countP_le_length

theorem bfs_skip {L : Links} {to : Int} {f : Int → Option Nat} {h : Int × Nat} {r : List (Int × Nat)} {p k : Nat} (B : Bfs L to f (h :: r) p k) {x y : Int} (hk : L[k]? = some (x, y)) (hs : y ≠ h.1 ∨ ∃ d, f x = some d) :
    Bfs L to f (h :: r) p (k + 1) := by
  refine ⟨B.i1, B.i2, B.i3, B.i4, B.i5, B.i6, fun h' r' e j hj x' hx' => ?_, B.i8, B.i9⟩
  cases e
  by_cases hjk : j = k
  · subst hjk
    rw [hk] at hx'
    cases hx'
    rcases hs with hs | hs
    · exact absurd rfl hs
    · exact hs
  · exact B.i7 h r rfl j (by omega) x' hx'

theorem unk_put (L : Links) (f : Int → Option Nat) (x : Int) (d k : Nat) (y : Int) (hk : L[k]? = some (x, y)) (hx : f x = none) : unk L (put1 f x d) + 1 ≤ unk L f := by
  induction L generalizing k with
  | nil => simp at hk
  | cons a t ih =>
    have hle : ∀ t : Links, t.countP (fun l => (put1 f x d l.1).isNone) ≤ t.countP (fun l => (f l.1).isNone) := by
      intro t
      refine List.countP_mono_left fun l _ hl => ?_
      unfold put1 at hl
      split at hl
      · simp at hl
      · exact hl
    unfold unk
    rw [List.countP_cons, List.countP_cons]
    cases k with
    | zero =>
      simp at hk
      subst hk
      have := hle t
      simp [put1, hx]
      simp [put1] at this
      omega
    | succ k =>
      have h1 := ih k (by simpa using hk)
      unfold unk at h1
      have h2 : (if (put1 f x d a.1).isNone = true then 1 else 0) ≤ (if (f a.1).isNone = true then 1 else 0) := by
        unfold put1
        by_cases hax : a.1 = x
        · rw [if_pos hax]; simp
        · rw [if_neg hax]; exact Nat.le_refl _
      omega

theorem bfs_push {L : Links} {to : Int} {f : Int → Option Nat} {h : Int × Nat} {r : List (Int × Nat)} {p k : Nat} (B : Bfs L to f (h :: r) p k) {x : Int} (hk : L[k]? = some (x, h.1)) (hx : f x = none) :
    Bfs L to (put1 f x (h.2 + 1)) (h :: (r ++ [(x, h.2 + 1)])) (p + 1) (k + 1) := by
  have hmono : ∀ y d, f y = some d → put1 f x (h.2 + 1) y = some d := by
    intro y d hy
    unfold put1
    rw [if_neg (by intro e; rw [e, hx] at hy; cases hy)]
    exact hy
  have hback : ∀ y d, put1 f x (h.2 + 1) y = some d → (y = x ∧ d = h.2 + 1) ∨ f y = some d := by
    intro y d hy
    unfold put1 at hy
    split at hy
    · rename_i e; cases hy; exact .inl ⟨e, rfl⟩
    · exact .inr hy
  have hh : f h.1 = some h.2 := B.i3 h (by simp)
  refine ⟨hmono _ _ B.i1, fun y d hy => ?_, fun z hz => ?_, ?_, fun h' r' e y d hy => ?_, fun y e hy hz x' hx' => ?_, fun h' r' e j hj x' hx' => ?_, fun y d hy => ?_, ?_⟩
  · rcases hback y d hy with ⟨rfl, rfl⟩ | hy
    · exact .inr ⟨h.1, h.2, List.mem_of_getElem? hk, hmono _ _ hh, rfl⟩
    · rcases B.i2 y d hy with h1 | ⟨y', e, h1, h2, h3⟩
      · exact .inl h1
      · exact .inr ⟨y', e, h1, hmono _ _ h2, h3⟩
  · rw [← List.cons_append] at hz
    rcases List.mem_append.1 hz with hz | hz
    · exact hmono _ _ (B.i3 z hz)
    · simp at hz; subst hz; simp [put1]
  · rw [← List.cons_append, List.pairwise_append]
    refine ⟨B.i4, by simp, fun a ha b hb => ?_⟩
    simp at hb
    subst hb
    exact B.i5 h r rfl _ _ (B.i3 a ha)
  · cases e
    rcases hback y d hy with ⟨rfl, rfl⟩ | hy
    · exact Nat.le_refl _
    · exact B.i5 h r rfl y d hy
  · rcases hback y e hy with ⟨rfl, rfl⟩ | hy
    · exact absurd rfl (hz (y, h.2 + 1) (by simp))
    · obtain ⟨d, h1, h2⟩ := B.i6 y e hy (fun z hz' => hz z (by rw [← List.cons_append]; exact List.mem_append.2 (.inl hz'))) x' hx'
      exact ⟨d, hmono _ _ h1, h2⟩
  · cases e
    by_cases hjk : j = k
    · subst hjk
      rw [hk] at hx'
      cases hx'
      exact ⟨_, by simp [put1]; rfl⟩
    · obtain ⟨d, h1⟩ := B.i7 h r rfl j (by omega) x' hx'
      exact ⟨d, hmono _ _ h1⟩
  · rcases hback y d hy with ⟨rfl, rfl⟩ | hy
    · have := B.i8 _ _ hh; omega
    · have := B.i8 _ _ hy; omega
  · have := unk_put L f x (h.2 + 1) k h.1 hk hx
    have := B.i9
    omega

theorem bfs_pop {L : Links} {to : Int} {f : Int → Option Nat} {h : Int × Nat} {r : List (Int × Nat)} {p : Nat} (B : Bfs L to f (h :: r) p L.length) : Bfs L to f r p 0 := by
  have hh : f h.1 = some h.2 := B.i3 h (by simp)
  refine ⟨B.i1, B.i2, fun z hz => B.i3 z (by simp [hz]), (List.pairwise_cons.1 B.i4).2, fun h' r' e x d hx => ?_, fun y e hy hz x hx => ?_, fun h' r' e j hj => by omega, B.i8, B.i9⟩
  · subst e
    have h1 := B.i5 h _ rfl x d hx
    have h2 := (List.pairwise_cons.1 B.i4).1 h' (by simp)
    omega
  · by_cases hy1 : h.1 = y
    · subst hy1
      rw [hh] at hy
      cases hy
      obtain ⟨j, hj, hj2⟩ := List.getElem_of_mem hx
      obtain ⟨d, hd⟩ := B.i7 h r rfl j hj x (by rw [List.getElem?_eq_getElem hj, hj2])
      exact ⟨d, hd, B.i5 h r rfl x d hd⟩
    · refine B.i6 y e hy (fun z hz' => ?_) x hx
      rcases List.mem_cons.1 hz' with rfl | hz'
      · exact hy1
      · exact hz z hz'

/-- how far it is to the end, from each version from which there is a way -/
structure Dist (L : Links) (to : Int) (f : Int → Option Nat) : Prop where
  d1 : f to = some 0
  d2 : ∀ x d, f x = some d → (x = to ∧ d = 0) ∨ ∃ y e, (x, y) ∈ L ∧ f y = some e ∧ d = e + 1
  d3 : ∀ y e, f y = some e → ∀ x, (x, y) ∈ L → ∃ d, f x = some d ∧ d ≤ e + 1
  d4 : ∀ x d, f x = some d → d ≤ L.length

theorem bfs_end {L : Links} {to : Int} {f : Int → Option Nat} {p k : Nat} (B : Bfs L to f [] p k) : Dist L to f :=
  ⟨B.i1, B.i2, fun y e hy x hx => B.i6 y e hy (fun z hz => by simp at hz) x hx, fun x d hx => by have := B.i8 x d hx; have := B.i9; omega⟩

/-- the end is as far as nothing from itself alone -/
theorem Dist.zero {L : Links} {to : Int} {f : Int → Option Nat} (D : Dist L to f) {x : Int} (h : f x = some 0) : x = to := by
  rcases D.d2 x 0 h with ⟨h, _⟩ | ⟨y, e, _, _, h⟩
  · exact h
  · omega

/-- link i goes on from x the shortest way -/
def nearer (L : Links) (f : Int → Option Nat) (x : Int) (i : Nat) : Prop := ∃ y e, L[i]? = some (x, y) ∧ f y = some e ∧ f x = some (e + 1)

/-- the way on which each link is the first that goes on so -/
def Way (L : Links) (f : Int → Option Nat) : List Nat → Int → Int → Prop
  | [], a, b => a = b
  | i :: r, a, b => ∃ y, L[i]? = some (a, y) ∧ nearer L f a i ∧ (∀ j, j < i → ¬ nearer L f a j) ∧ Way L f r y b

theorem Way.leads {L : Links} {f : Int → Option Nat} : ∀ {o : List Nat} {a b : Int}, Way L f o a b → Leads L o a b
  | [], _, _, h => h
  | _ :: _, _, _, ⟨y, h1, _, _, h4⟩ => ⟨(_, y), h1, rfl, h4.leads⟩

theorem Way.lt {L : Links} {f : Int → Option Nat} : ∀ {o : List Nat} {a b : Int}, Way L f o a b → ∀ i ∈ o, i < L.length
  | [], _, _, _, i, hi => by simp at hi
  | j :: r, _, _, ⟨y, h1, _, _, h4⟩, i, hi => by
    rcases List.mem_cons.1 hi with rfl | hi
    · exact (List.getElem?_eq_some_iff.1 h1).1
    · exact h4.lt i hi

theorem Way.snoc {L : Links} {f : Int → Option Nat} {i : Nat} {y : Int} : ∀ {o : List Nat} {a b : Int}, Way L f o a b → L[i]? = some (b, y) → nearer L f b i → (∀ j, j < i → ¬ nearer L f b j) → Way L f (o ++ [i]) a y
  | [], a, b, h, h1, h2, h3 => by
    obtain rfl : a = b := h
    exact ⟨y, h1, h2, h3, rfl⟩
  | _ :: _, _, _, ⟨z, g1, g2, g3, g4⟩, h1, h2, h3 => ⟨z, g1, g2, g3, g4.snoc h1 h2 h3⟩

theorem Way.len {L : Links} {f : Int → Option Nat} : ∀ {o : List Nat} {a b : Int}, Way L f o a b → ∀ e, f b = some e → f a = some (e + o.length)
  | [], a, b, h, e, he => by
    obtain rfl : a = b := h
    exact he
  | i :: r, a, b, ⟨y, g1, ⟨y', e', k1, k2, k3⟩, g3, g4⟩, e, he => by
    have := g4.len e he
    rw [g1] at k1
    cases k1
    rw [k2] at this
    cases this
    rw [k3, List.length_cons, Nat.add_assoc]

/-- there is a link that goes on -/
theorem Dist.goes {L : Links} {to : Int} {f : Int → Option Nat} (D : Dist L to f) {x : Int} {d : Nat} (h : f x = some d) (hx : x ≠ to) : ∃ i, i < L.length ∧ nearer L f x i := by
  rcases D.d2 x d h with ⟨h1, _⟩ | ⟨y, e, h1, h2, h3⟩
  · exact absurd h1 hx
  · obtain ⟨i, hi, hi2⟩ := List.getElem_of_mem h1
    exact ⟨i, hi, y, e, by rw [List.getElem?_eq_getElem hi, hi2], h2, by rw [h, h3]⟩

/-- no way is shorter -/
theorem Dist.least {L : Links} {to : Int} {f : Int → Option Nat} (D : Dist L to f) : ∀ (o : List Nat) (a : Int), Leads L o a to → ∃ d, f a = some d ∧ d ≤ o.length
  | [], a, h => by
    obtain rfl : a = to := h
    exact ⟨0, D.d1, Nat.le_refl _⟩
  | i :: r, a, ⟨p, h1, h2, h3⟩ => by
    obtain ⟨e, h4, h5⟩ := D.least r p.2 h3
    subst h2
    obtain ⟨d, h6, h7⟩ := D.d3 p.2 e h4 p.1 (List.mem_of_getElem? h1)
    exact ⟨d, h6, by rw [List.length_cons]; omega⟩

/-- of two lists of one length, which stands first -/
def cmpNat : List Nat → List Nat → Int
  | [], [] => 0
  | [], _ :: _ => -1
  | _ :: _, [] => 1
  | a :: r, b :: s => if a < b then -1 else if b < a then 1 else cmpNat r s

/-- none as short stands ahead of it -/
theorem Dist.first {L : Links} {to : Int} {f : Int → Option Nat} (D : Dist L to f) : ∀ (o s : List Nat) (a : Int), Way L f o a to → Leads L s a to → o.length = s.length → cmpNat o s ≤ 0
  | [], [], _, _, _, _ => by simp [cmpNat]
  | [], _ :: _, _, _, _, h => by simp at h
  | _ :: _, [], _, _, _, h => by simp at h
  | i :: r, j :: s, a, hw, hl, hn => by
    have hlen := hw.len 0 D.d1
    rw [Nat.zero_add] at hlen
    obtain ⟨y, g1, g2, g3, g4⟩ := hw
    obtain ⟨p, h1, h2, h3⟩ := hl
    subst h2
    simp only [List.length_cons, Nat.add_right_cancel_iff] at hn
    unfold cmpNat
    by_cases hij : i < j
    · rw [if_pos hij]; omega
    · rw [if_neg hij]
      by_cases hji : j < i
      · exfalso
        refine g3 j hji ?_
        obtain ⟨e, h4, h5⟩ := D.least s p.2 h3
        obtain ⟨d, h6, h7⟩ := D.d3 p.2 e h4 p.1 (List.mem_of_getElem? h1)
        refine ⟨p.2, e, h1, h4, ?_⟩
        rw [hlen] at h6 ⊢
        cases h6
        rw [List.length_cons] at h7 ⊢
        congr 1
        omega
      · rw [if_neg hji]
        obtain rfl : i = j := by omega
        rw [g1] at h1
        obtain rfl : y = p.2 := congrArg Prod.snd (Option.some.inj h1)
        exact D.first r s p.2 g4 h3 hn
end Go.Proofs.Ytgcpnckdcdhflaa
