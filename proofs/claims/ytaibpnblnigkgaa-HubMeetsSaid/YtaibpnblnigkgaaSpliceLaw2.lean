/-
  Plain law: which changes are good; two changes one behind the other, over each other, and back. No conditions.
-/
import Derived.Test.YtaibpnblnigkgaaSpliceLaw
namespace Go.Proofs.Ytaibpnblnigkgaa

def partErr (q : Part) : Int :=
  if q.1 < 1 ∨ 3 < q.1 then 10 else if q.2.1 < 0 ∨ 20000 < q.2.1 ∨ (q.1 = 3 ∧ q.2.1 ≠ 0) then 1 else if 20000 < q.2.2.length then 2 else if q.1 ≠ 3 ∧ q.2.2 ≠ [] then 1 else 0
def badOf : List Part → Int
  | [] => 0
  | q :: r => if partErr q = 0 then badOf r else partErr q
/-- the error of a change -/
def chk (l : List Part) : Int := if 400 < l.length then 2 else if badOf l = 0 then (if 20000 < U.over (ex l) ∨ 20000 < U.makes (ex l) then 2 else 0) else badOf l

theorem partErr_ok {q : Part} (h : partErr q = 0) : okP q ∧ q.2.1 ≤ 20000 ∧ q.2.2.length ≤ 20000 := by
  unfold partErr at h
  split at h
  · cases h
  · split at h
    · cases h
    · split at h
      · cases h
      · split at h
        · cases h
        · rename_i h1 h2 h3 h4
          refine ⟨⟨by omega, by omega, fun h => ?_, fun h => ?_⟩, by omega, by omega⟩
          · refine Classical.byContradiction fun hc => h2 (.inr (.inr ⟨h, hc⟩))
          · refine Classical.byContradiction fun hc => h4 ⟨h, hc⟩
theorem partErr_zero {q : Part} (h : okP q) (h1 : q.2.1 ≤ 20000) (h2 : q.2.2.length ≤ 20000) : partErr q = 0 := by
  obtain ⟨hk, hn, h3, h4⟩ := h
  unfold partErr
  rw [if_neg (by omega), if_neg, if_neg (by omega), if_neg]
  · exact fun ⟨a, b⟩ => b (h4 a)
  · rintro (h | h | ⟨a, b⟩)
    · omega
    · omega
    · exact b (h3 a)
theorem badOf_zero {l : List Part} : badOf l = 0 ↔ ∀ q ∈ l, partErr q = 0 := by
  induction l with
  | nil => simp [badOf]
  | cons q r ih =>
    unfold badOf
    by_cases h : partErr q = 0
    · rw [if_pos h, ih]; simp [h]
    · rw [if_neg h]; simp [h]
theorem chk_zero {l : List Part} : chk l = 0 ↔ l.length ≤ 400 ∧ (∀ q ∈ l, partErr q = 0) ∧ U.over (ex l) ≤ 20000 ∧ U.makes (ex l) ≤ 20000 := by
  unfold chk
  by_cases h : 400 < l.length
  · rw [if_pos h]; constructor
    · intro h; cases h
    · intro ⟨h1, _⟩; omega
  · rw [if_neg h]
    by_cases hb : badOf l = 0
    · rw [if_pos hb]
      by_cases ho : 20000 < U.over (ex l) ∨ 20000 < U.makes (ex l)
      · rw [if_pos ho]; constructor
        · intro h; cases h
        · intro ⟨_, _, h1, h2⟩; omega
      · rw [if_neg ho]
        simp only [true_iff]
        exact ⟨by omega, badOf_zero.1 hb, by omega, by omega⟩
    · rw [if_neg hb]; constructor
      · intro h; exact absurd h hb
      · intro ⟨_, h2, _⟩; exact absurd (badOf_zero.2 h2) hb

theorem chk_okP {l : List Part} (h : chk l = 0) : ∀ q ∈ l, okP q := fun q hq => (partErr_ok ((chk_zero.1 h).2.1 q hq)).1

theorem over_ex1 (q : Part) (h : okP q) : (U.over (ex1 q) : Int) = if q.1 = 3 then 0 else q.2.1 := by
  obtain ⟨k, n, s⟩ := q
  obtain ⟨hk, hn, h3, h4⟩ := h
  simp only at hk hn h3 h4
  unfold ex1
  simp only
  rcases hk with rfl | rfl | rfl
  · simp [U.over_ks]; omega
  · simp [U.over_cs]; omega
  · simp [U.over_ps]
theorem makes_ex1 (q : Part) (h : okP q) : (U.makes (ex1 q) : Int) = if q.1 = 2 then 0 else q.2.1 + q.2.2.length := by
  obtain ⟨k, n, s⟩ := q
  obtain ⟨hk, hn, h3, h4⟩ := h
  simp only at hk hn h3 h4
  unfold ex1
  simp only
  rcases hk with rfl | rfl | rfl
  · simp [U.makes_ks, h4]; omega
  · simp [U.makes_cs]
  · simp [U.makes_ps, h3]
theorem len_ex1 (q : Part) (h : okP q) : ((ex1 q).length : Int) = q.2.1 + q.2.2.length := by
  obtain ⟨k, n, s⟩ := q
  obtain ⟨hk, hn, h3, h4⟩ := h
  simp only at hk hn h3 h4
  unfold ex1
  simp only
  rcases hk with rfl | rfl | rfl
  · simp [h4]; omega
  · simp [h4]; omega
  · simp [h3]
theorem over_mem {l : List Part} {q : Part} (h : q ∈ l) : U.over (ex1 q) ≤ U.over (ex l) := by
  induction l with
  | nil => simp at h
  | cons a r ih =>
    rw [ex_cons, U.over_append]
    rcases List.mem_cons.1 h with rfl | h
    · omega
    · have := ih h; omega
theorem makes_mem {l : List Part} {q : Part} (h : q ∈ l) : U.makes (ex1 q) ≤ U.makes (ex l) := by
  induction l with
  | nil => simp at h
  | cons a r ih =>
    rw [ex_cons, U.makes_append]
    rcases List.mem_cons.1 h with rfl | h
    · omega
    · have := ih h; omega
/-- few parts, none of no use, and not too much -/
theorem chk_of {l : List Part} (h : ∀ q ∈ l, okP q) (hl : l.length ≤ 400) (ho : U.over (ex l) ≤ 20000) (hm : U.makes (ex l) ≤ 20000) : chk l = 0 := by
  refine chk_zero.2 ⟨hl, fun q hq => ?_, ho, hm⟩
  have h1 := over_mem hq
  have h2 := makes_mem hq
  have h3 := over_ex1 q (h q hq)
  have h4 := makes_ex1 q (h q hq)
  obtain ⟨hk, hn, h5, h6⟩ := h q hq
  refine partErr_zero (h q hq) ?_ ?_
  · by_cases hk3 : q.1 = 3
    · rw [h5 hk3]; decide
    · rw [if_neg hk3] at h3; omega
  · by_cases hk3 : q.1 = 3
    · rw [if_neg (by omega)] at h4; omega
    · rw [h6 hk3]; decide

theorem stU_parts {l : List Part} (h : ∀ q ∈ l, okP q) (us : List U) : l.foldl addS (stU us) = stU (us ++ ex l) := by
  induction l generalizing us with
  | nil => simp [ex]
  | cons q r ih =>
    rw [List.foldl_cons, stU_add _ _ (h q (by simp)), ih (fun q hq => h q (by simp [hq])), ex_cons, List.append_assoc]
def wt (st : Bst) : Nat := st.1.length + (if st.2.1 = 0 then 0 else 1) + (if st.2.2 = [] then 0 else 1)
theorem flush_len (st : Bst) : (flushS st).1.length = wt st := by
  unfold flushS wt putOut cutOut
  simp only [List.length_append]
  have h1 : (if st.2.2 = [] then ([] : List Part) else [(3, 0, st.2.2)]).length = if st.2.2 = [] then 0 else 1 := by split <;> rfl
  have h2 : (if st.2.1 = 0 then ([] : List Part) else [(2, (st.2.1 : Int), [])]).length = if st.2.1 = 0 then 0 else 1 := by split <;> rfl
  rw [h1, h2]; omega
theorem keepOn_len (l : List Part) (n : Nat) : (keepOn l n).length ≤ l.length + 1 := by
  unfold keepOn
  cases hl : l.getLast? with
  | none => simp
  | some z =>
    simp only
    split
    · simp
    · simp
theorem wt_add (st : Bst) (q : Part) : wt (addS st q) ≤ wt st + 1 := by
  unfold addS
  split
  · unfold wt
    simp only
    have : (if st.2.2 ++ q.2.2 = [] then 0 else 1) ≤ 1 := by split <;> omega
    omega
  · split
    · unfold wt
      simp only
      have : (if st.2.1 + q.2.1.toNat = 0 then 0 else 1) ≤ 1 := by split <;> omega
      omega
    · split
      · omega
      · have h1 := keepOn_len (flushS st).1 q.2.1.toNat
        rw [flush_len] at h1
        unfold wt at h1 ⊢
        simp only [↓reduceIte, Nat.add_zero]
        exact h1
theorem wt_parts (l : List Part) (st : Bst) : wt (l.foldl addS st) ≤ wt st + l.length := by
  induction l generalizing st with
  | nil => simp
  | cons q r ih =>
    rw [List.foldl_cons, List.length_cons]
    have := ih (addS st q)
    have := wt_add st q
    omega
theorem nf_len {l : List Part} (h : ∀ q ∈ l, okP q) : (nf (ex l)).length ≤ l.length := by
  have h1 := stU_parts h []
  rw [List.nil_append] at h1
  have h2 := wt_parts l b0
  have h3 : wt b0 = 0 := rfl
  have h4 : stU [] = b0 := rfl
  unfold nf doneS
  rw [flush_len, ← h1, h4]
  omega
theorem chk_nf {l : List Part} (h : chk l = 0) : chk (nf (ex l)) = 0 := by
  obtain ⟨h1, h2, h3, h4⟩ := chk_zero.1 h
  have hs := same_nf (ex l)
  refine chk_of (fun q hq => (nz_nf _ q hq).okP) (Nat.le_trans (nf_len (chk_okP h)) h1) ?_ ?_
  · rw [hs.over]; exact h3
  · rw [hs.makes]; exact h4

/-- how many parts a builder holds, at most -/
theorem nz_len {l : List Part} (h : ∀ q ∈ l, nzP q) : l.length ≤ (ex l).length := by
  induction l with
  | nil => simp
  | cons q r ih =>
    have h1 := (h q (by simp)).2
    have h2 := ih (fun q hq => h q (by simp [hq]))
    rw [ex_cons, List.length_append, List.length_cons]; omega
theorem over_le_len (us : List U) : U.over us ≤ us.length := by
  induction us with
  | nil => simp [U.over]
  | cons u r ih => cases u <;> simp [U.over] <;> omega
theorem makes_le_len (us : List U) : U.makes us ≤ us.length := by
  induction us with
  | nil => simp [U.makes]
  | cons u r ih => cases u <;> simp [U.makes] <;> omega
theorem len_le (us : List U) : us.length ≤ U.over us + U.makes us := by
  induction us with
  | nil => simp
  | cons u r ih => cases u <;> simp [U.over, U.makes] <;> omega

theorem st_len (us : List U) : (stU us).1.length + (stU us).2.1 + (stU us).2.2.length ≤ U.over us + U.makes us := by
  have h := same_st us
  have h1 := nz_len (nz_st us)
  have h2 := len_le (ex (stU us).1)
  have h3 := h.over
  have h4 := h.makes
  unfold exS at h3 h4
  rw [U.over_append, U.over_append, U.over_ps, U.over_cs] at h3
  rw [U.makes_append, U.makes_append, U.makes_ps, U.makes_cs] at h4
  omega

/-- one behind the other -/
def comp : List U → List U → List U
  | xs, .p b :: ys => .p b :: comp xs ys
  | .c :: xs, ys => .c :: comp xs ys
  | .k :: xs, .k :: ys => .k :: comp xs ys
  | .p b :: xs, .k :: ys => .p b :: comp xs ys
  | .k :: xs, .c :: ys => .c :: comp xs ys
  | .p _ :: xs, .c :: ys => comp xs ys
  | _, _ => []
termination_by xs ys => xs.length + ys.length

theorem comp_p (xs ys : List U) (b : UInt8) : comp xs (.p b :: ys) = .p b :: comp xs ys := by cases xs <;> simp [comp]
theorem comp_c_nil (xs : List U) : comp (.c :: xs) [] = .c :: comp xs [] := by simp [comp]
theorem comp_c_k (xs ys : List U) : comp (.c :: xs) (.k :: ys) = .c :: comp xs (.k :: ys) := by simp [comp]
theorem comp_c_c (xs ys : List U) : comp (.c :: xs) (.c :: ys) = .c :: comp xs (.c :: ys) := by simp [comp]

theorem comp_law (n : Nat) : ∀ (xs ys : List U), xs.length + ys.length ≤ n → U.makes xs = U.over ys →
    U.over (comp xs ys) = U.over xs ∧ U.makes (comp xs ys) = U.makes ys ∧ ∀ {α : Type} (f : UInt8 → α) (s : List α), s.length = U.over xs → U.app f (comp xs ys) s = U.app f ys (U.app f xs s) := by
  induction n with
  | zero =>
    intro xs ys hn hm
    obtain rfl : xs = [] := List.eq_nil_of_length_eq_zero (by omega)
    obtain rfl : ys = [] := List.eq_nil_of_length_eq_zero (by omega)
    simp [comp, U.over, U.makes, U.app]
  | succ n ih =>
    intro xs ys hn hm
    cases ys with
    | nil =>
      cases xs with
      | nil => simp [comp, U.over, U.makes, U.app]
      | cons x xs =>
        cases x with
        | k => simp [U.makes, U.over] at hm
        | p b => simp [U.makes, U.over] at hm
        | c =>
          obtain ⟨h1, h2, h3⟩ := ih xs [] (by simp at hn ⊢; omega) (by simpa [U.makes] using hm)
          rw [comp_c_nil]
          refine ⟨by simp [U.over, h1], by simp [U.makes, h2], fun f s hs => ?_⟩
          cases s with
          | nil => simp [U.over] at hs
          | cons a s => simp only [U.app, List.drop_succ_cons, List.drop_zero]; exact h3 f s (by simpa [U.over] using hs)
    | cons y ys =>
      cases y with
      | p b =>
        obtain ⟨h1, h2, h3⟩ := ih xs ys (by simp at hn ⊢; omega) (by simpa [U.over] using hm)
        rw [comp_p]
        refine ⟨by simp [U.over, h1], by simp [U.makes, h2], fun f s hs => ?_⟩
        simp only [U.app]
        rw [h3 f s hs]
      | k =>
        cases xs with
        | nil => simp [U.makes, U.over] at hm
        | cons x xs =>
          cases x with
          | c =>
            obtain ⟨h1, h2, h3⟩ := ih xs (.k :: ys) (by simp at hn ⊢; omega) (by simpa [U.makes] using hm)
            rw [comp_c_k]
            refine ⟨by simp [U.over, h1], by simpa [U.makes] using h2, fun f s hs => ?_⟩
            cases s with
            | nil => simp [U.over] at hs
            | cons a s =>
              rw [show U.app f (.c :: comp xs (.k :: ys)) (a :: s) = U.app f (comp xs (.k :: ys)) s by simp [U.app], h3 f s (by simpa [U.over] using hs)]
              rw [show U.app f (.c :: xs) (a :: s) = U.app f xs s by simp [U.app]]
          | k =>
            obtain ⟨h1, h2, h3⟩ := ih xs ys (by simp at hn ⊢; omega) (by simpa [U.makes, U.over] using hm)
            rw [show comp (.k :: xs) (.k :: ys) = .k :: comp xs ys by simp [comp]]
            refine ⟨by simp [U.over, h1], by simp [U.makes, h2], fun f s hs => ?_⟩
            cases s with
            | nil => simp [U.over] at hs
            | cons a s => simp only [U.app]; rw [h3 f s (by simpa [U.over] using hs)]
          | p b =>
            obtain ⟨h1, h2, h3⟩ := ih xs ys (by simp at hn ⊢; omega) (by simpa [U.makes, U.over] using hm)
            rw [show comp (.p b :: xs) (.k :: ys) = .p b :: comp xs ys by simp [comp]]
            refine ⟨by simp [U.over, h1], by simp [U.makes, h2], fun f s hs => ?_⟩
            simp only [U.app]
            rw [h3 f s (by simpa [U.over] using hs)]
      | c =>
        cases xs with
        | nil => simp [U.makes, U.over] at hm
        | cons x xs =>
          cases x with
          | c =>
            obtain ⟨h1, h2, h3⟩ := ih xs (.c :: ys) (by simp at hn ⊢; omega) (by simpa [U.makes] using hm)
            rw [comp_c_c]
            refine ⟨by simp [U.over, h1], by simpa [U.makes] using h2, fun f s hs => ?_⟩
            cases s with
            | nil => simp [U.over] at hs
            | cons a s =>
              rw [show U.app f (.c :: comp xs (.c :: ys)) (a :: s) = U.app f (comp xs (.c :: ys)) s by simp [U.app], h3 f s (by simpa [U.over] using hs)]
              rw [show U.app f (.c :: xs) (a :: s) = U.app f xs s by simp [U.app]]
          | k =>
            obtain ⟨h1, h2, h3⟩ := ih xs ys (by simp at hn ⊢; omega) (by simpa [U.makes, U.over] using hm)
            rw [show comp (.k :: xs) (.c :: ys) = .c :: comp xs ys by simp [comp]]
            refine ⟨by simp [U.over, h1], by simp [U.makes, h2], fun f s hs => ?_⟩
            cases s with
            | nil => simp [U.over] at hs
            | cons a s =>
              simp only [U.app, List.drop_succ_cons, List.drop_zero]
              rw [h3 f s (by simpa [U.over] using hs)]
          | p b =>
            obtain ⟨h1, h2, h3⟩ := ih xs ys (by simp at hn ⊢; omega) (by simpa [U.makes, U.over] using hm)
            rw [show comp (.p b :: xs) (.c :: ys) = comp xs ys by simp [comp]]
            refine ⟨by simp [U.over, h1], by simp [U.makes, h2], fun f s hs => ?_⟩
            simp only [U.app, List.drop_succ_cons, List.drop_zero]
            rw [h3 f s (by simpa [U.over] using hs)]

theorem comp_ps (xs ys : List U) (s : List UInt8) : comp xs (s.map U.p ++ ys) = s.map U.p ++ comp xs ys := by
  induction s with
  | nil => rfl
  | cons b s ih => simp only [List.map_cons, List.cons_append, comp_p, ih]
/-- no byte is put first -/
def noPut : List U → Prop
  | .p _ :: _ => False
  | _ => True
theorem comp_cs (n : Nat) (xs ys : List U) (h : noPut ys) : comp (List.replicate n U.c ++ xs) ys = List.replicate n U.c ++ comp xs ys := by
  induction n with
  | zero => rfl
  | succ n ih =>
    rw [List.replicate_succ, List.cons_append, List.cons_append, ← ih]
    cases ys with
    | nil => rw [comp_c_nil]
    | cons y ys =>
      cases y with
      | p b => exact absurd h (by simp [noPut])
      | k => rw [comp_c_k]
      | c => rw [comp_c_c]
theorem comp_kk (n : Nat) (xs ys : List U) : comp (List.replicate n U.k ++ xs) (List.replicate n U.k ++ ys) = List.replicate n U.k ++ comp xs ys := by
  induction n with
  | zero => rfl
  | succ n ih => simp only [List.replicate_succ, List.cons_append]; rw [← ih]; simp [comp]
theorem comp_kc (n : Nat) (xs ys : List U) : comp (List.replicate n U.k ++ xs) (List.replicate n U.c ++ ys) = List.replicate n U.c ++ comp xs ys := by
  induction n with
  | zero => rfl
  | succ n ih => simp only [List.replicate_succ, List.cons_append]; rw [← ih]; simp [comp]
theorem comp_pk (s : List UInt8) (xs ys : List U) : comp (s.map U.p ++ xs) (List.replicate s.length U.k ++ ys) = s.map U.p ++ comp xs ys := by
  induction s with
  | nil => rfl
  | cons b s ih => simp only [List.length_cons, List.replicate_succ, List.map_cons, List.cons_append]; rw [← ih]; simp [comp]
theorem comp_pc (s : List UInt8) (xs ys : List U) : comp (s.map U.p ++ xs) (List.replicate s.length U.c ++ ys) = comp xs ys := by
  induction s with
  | nil => rfl
  | cons b s ih => simp only [List.length_cons, List.replicate_succ, List.map_cons, List.cons_append]; rw [← ih]; simp [comp]

theorem ex1_keep {q : Part} (h : q.1 = 1) : ex1 q = List.replicate q.2.1.toNat .k := by unfold ex1; rw [if_pos h]
theorem ex1_cut {q : Part} (h : q.1 = 2) : ex1 q = List.replicate q.2.1.toNat .c := by unfold ex1; rw [if_neg (by omega), if_pos h]
theorem ex1_put {q : Part} (h : q.1 = 3) : ex1 q = q.2.2.map .p := by unfold ex1; rw [if_neg (by omega), if_neg (by omega)]
theorem len_keep {q : Part} (h : q.1 = 1) : (ex1 q).length = q.2.1.toNat := by rw [ex1_keep h]; simp
theorem len_cut {q : Part} (h : q.1 = 2) : (ex1 q).length = q.2.1.toNat := by rw [ex1_cut h]; simp
theorem len_put {q : Part} (h : q.1 = 3) : (ex1 q).length = q.2.2.length := by rw [ex1_put h]; simp

theorem comp_put (q : Part) (xs ys : List U) (h : q.1 = 3) : comp xs (ex1 q ++ ys) = ex1 q ++ comp xs ys := by rw [ex1_put h, comp_ps]
theorem comp_cut (q : Part) (xs ys : List U) (h : q.1 = 2) (hy : noPut ys) : comp (ex1 q ++ xs) ys = ex1 q ++ comp xs ys := by rw [ex1_cut h, comp_cs _ _ _ hy]
theorem comp_pair (p q : Part) (xs ys : List U) (hp : p.1 = 1 ∨ p.1 = 3) (hq : q.1 = 1 ∨ q.1 = 2) (hl : (ex1 p).length = (ex1 q).length) :
    comp (ex1 p ++ xs) (ex1 q ++ ys) = (if p.1 = 1 then ex1 q else if q.1 = 1 then ex1 p else []) ++ comp xs ys := by
  rcases hp with hp | hp
  · rw [if_pos hp]
    rw [len_keep hp] at hl
    rw [ex1_keep hp]
    rcases hq with hq | hq
    · rw [len_keep hq] at hl
      rw [ex1_keep hq, hl, comp_kk]
    · rw [len_cut hq] at hl
      rw [ex1_cut hq, hl, comp_kc]
  · rw [if_neg (by omega)]
    rw [len_put hp] at hl
    rw [ex1_put hp]
    rcases hq with hq | hq
    · rw [if_pos hq]
      rw [len_keep hq] at hl
      rw [ex1_keep hq, ← hl, comp_pk]
    · rw [if_neg (by omega)]
      rw [len_cut hq] at hl
      rw [ex1_cut hq, ← hl, comp_pc]; rfl

theorem noPut_nil : noPut [] := trivial
theorem noPut_part (q : Part) (l : List U) (h : q.1 ≠ 3) (hq : nzP q) : noPut (ex1 q ++ l) := by
  obtain ⟨⟨hk, -⟩, hl⟩ := hq
  rcases hk with hk | hk | hk
  · rw [len_keep hk] at hl
    rw [ex1_keep hk]
    obtain ⟨m, hm⟩ : ∃ m, q.2.1.toNat = m + 1 := ⟨q.2.1.toNat - 1, by omega⟩
    rw [hm]; exact trivial
  · rw [len_cut hk] at hl
    rw [ex1_cut hk]
    obtain ⟨m, hm⟩ : ∃ m, q.2.1.toNat = m + 1 := ⟨q.2.1.toNat - 1, by omega⟩
    rw [hm]; exact trivial
  · exact absurd hk h

theorem comp_keep_left (ys : List U) : comp (List.replicate (U.over ys) .k) ys = ys := by
  induction ys with
  | nil => simp [U.over, comp]
  | cons y ys ih =>
    cases y with
    | p b => simp only [U.over]; rw [comp_p, ih]
    | k => simp only [U.over, List.replicate_succ]; simp [comp, ih]
    | c => simp only [U.over, List.replicate_succ]; simp [comp, ih]
theorem comp_keep_right (xs : List U) : comp xs (List.replicate (U.makes xs) .k) = xs := by
  induction xs with
  | nil => simp [U.makes, comp]
  | cons x xs ih =>
    cases x with
    | p b => simp only [U.makes, List.replicate_succ]; simp [comp, ih]
    | k => simp only [U.makes, List.replicate_succ]; simp [comp, ih]
    | c =>
      simp only [U.makes]
      have h := comp_cs 1 xs (List.replicate (U.makes xs) .k) (by cases U.makes xs <;> simp [List.replicate_succ, noPut])
      simp only [List.replicate_one, List.singleton_append] at h
      rw [h, ih]

/-- of three it is no matter which two are joined first -/
theorem comp_three {A B C ab bc : List U} (h1 : U.makes A = U.over B) (h2 : U.makes B = U.over C) (hab : Same ab (comp A B)) (hbc : Same bc (comp B C)) : nf (comp ab C) = nf (comp A bc) := by
  obtain ⟨o1, m1, a1⟩ := comp_law _ A B (Nat.le_refl _) h1
  obtain ⟨o2, m2, a2⟩ := comp_law _ B C (Nat.le_refl _) h2
  obtain ⟨o3, m3, a3⟩ := comp_law _ ab C (Nat.le_refl _) (by rw [hab.makes, m1, h2])
  obtain ⟨o4, m4, a4⟩ := comp_law _ A bc (Nat.le_refl _) (by rw [hbc.over, o2, h1])
  refine nf_congr (bc_of_app (by rw [o3, o4, hab.over, o1]) ?_)
  have ho : U.over (comp ab C) = U.over A := by rw [o3, hab.over, o1]
  rw [ho]
  have ht : (tags 0 (U.over A)).length = U.over A := tags_len _ _
  rw [a3 _ _ (by rw [ht, hab.over, o1]), a4 _ _ ht, hab.app, hbc.app, a1 _ _ ht, a2 _ _ (by rw [U.app_length _ _ _ ht.symm, h1])]

/-- over each other -/
def tr : List U → List U → List U × List U
  | .p b :: xs, ys => (.p b :: (tr xs ys).1, .k :: (tr xs ys).2)
  | xs, .p b :: ys => (.k :: (tr xs ys).1, .p b :: (tr xs ys).2)
  | .k :: xs, .k :: ys => (.k :: (tr xs ys).1, .k :: (tr xs ys).2)
  | .k :: xs, .c :: ys => ((tr xs ys).1, .c :: (tr xs ys).2)
  | .c :: xs, .k :: ys => (.c :: (tr xs ys).1, (tr xs ys).2)
  | .c :: xs, .c :: ys => tr xs ys
  | _, _ => ([], [])
termination_by xs ys => xs.length + ys.length

theorem tr_p (xs ys : List U) (b : UInt8) : tr (.p b :: xs) ys = (.p b :: (tr xs ys).1, .k :: (tr xs ys).2) := by simp [tr]
theorem tr_np (xs ys : List U) (b : UInt8) (h : noPut xs) : tr xs (.p b :: ys) = (.k :: (tr xs ys).1, .p b :: (tr xs ys).2) := by
  cases xs with
  | nil => simp [tr]
  | cons x xs => cases x with
    | p b => exact absurd h (by simp [noPut])
    | k => simp [tr]
    | c => simp [tr]

theorem tr_law (n : Nat) : ∀ (xs ys : List U), xs.length + ys.length ≤ n → U.over xs = U.over ys →
    U.over (tr xs ys).1 = U.makes ys ∧ U.over (tr xs ys).2 = U.makes xs ∧ ∀ {α : Type} (f : UInt8 → α) (s : List α), s.length = U.over xs → U.app f (tr xs ys).2 (U.app f xs s) = U.app f (tr xs ys).1 (U.app f ys s) := by
  induction n with
  | zero =>
    intro xs ys hn hm
    obtain rfl : xs = [] := List.eq_nil_of_length_eq_zero (by omega)
    obtain rfl : ys = [] := List.eq_nil_of_length_eq_zero (by omega)
    simp [tr, U.over, U.makes, U.app]
  | succ n ih =>
    intro xs ys hn hm
    have put : ∀ (b : UInt8) (ys' : List U), ys = .p b :: ys' → noPut xs → U.over (tr xs ys).1 = U.makes ys ∧ U.over (tr xs ys).2 = U.makes xs ∧ ∀ {α : Type} (f : UInt8 → α) (s : List α), s.length = U.over xs → U.app f (tr xs ys).2 (U.app f xs s) = U.app f (tr xs ys).1 (U.app f ys s) := by
      intro b ys' e hx
      subst e
      obtain ⟨h1, h2, h3⟩ := ih xs ys' (by simp at hn ⊢; omega) (by simpa [U.over] using hm)
      rw [tr_np _ _ _ hx]
      refine ⟨by simp [U.over, U.makes, h1], by simp [U.over, h2], fun f s hs => ?_⟩
      simp only [U.app]
      rw [h3 f s hs]
    cases xs with
    | nil =>
      cases ys with
      | nil => simp [tr, U.over, U.makes, U.app]
      | cons y ys =>
        cases y with
        | p b => exact put b ys rfl noPut_nil
        | k => simp [U.over] at hm
        | c => simp [U.over] at hm
    | cons x xs =>
      cases x with
      | p b =>
        obtain ⟨h1, h2, h3⟩ := ih xs ys (by simp at hn ⊢; omega) (by simpa [U.over] using hm)
        rw [tr_p]
        refine ⟨by simp [U.over, h1], by simp [U.over, U.makes, h2], fun f s hs => ?_⟩
        simp only [U.app]
        rw [h3 f s (by simpa [U.over] using hs)]
      | k =>
        cases ys with
        | nil => simp [U.over] at hm
        | cons y ys =>
          cases y with
          | p b => exact put b ys rfl trivial
          | k =>
            obtain ⟨h1, h2, h3⟩ := ih xs ys (by simp at hn ⊢; omega) (by simpa [U.over] using hm)
            rw [show tr (.k :: xs) (.k :: ys) = (.k :: (tr xs ys).1, .k :: (tr xs ys).2) by simp [tr]]
            refine ⟨by simp [U.over, U.makes, h1], by simp [U.over, U.makes, h2], fun f s hs => ?_⟩
            cases s with
            | nil => simp [U.over] at hs
            | cons a s => simp only [U.app]; rw [h3 f s (by simpa [U.over] using hs)]
          | c =>
            obtain ⟨h1, h2, h3⟩ := ih xs ys (by simp at hn ⊢; omega) (by simpa [U.over] using hm)
            rw [show tr (.k :: xs) (.c :: ys) = ((tr xs ys).1, .c :: (tr xs ys).2) by simp [tr]]
            refine ⟨by simp [U.makes, h1], by simp [U.over, U.makes, h2], fun f s hs => ?_⟩
            cases s with
            | nil => simp [U.over] at hs
            | cons a s => simp only [U.app, List.drop_succ_cons, List.drop_zero]; rw [h3 f s (by simpa [U.over] using hs)]
      | c =>
        cases ys with
        | nil => simp [U.over] at hm
        | cons y ys =>
          cases y with
          | p b => exact put b ys rfl trivial
          | k =>
            obtain ⟨h1, h2, h3⟩ := ih xs ys (by simp at hn ⊢; omega) (by simpa [U.over] using hm)
            rw [show tr (.c :: xs) (.k :: ys) = (.c :: (tr xs ys).1, (tr xs ys).2) by simp [tr]]
            refine ⟨by simp [U.over, U.makes, h1], by simp [U.makes, h2], fun f s hs => ?_⟩
            cases s with
            | nil => simp [U.over] at hs
            | cons a s => simp only [U.app, List.drop_succ_cons, List.drop_zero]; rw [h3 f s (by simpa [U.over] using hs)]
          | c =>
            obtain ⟨h1, h2, h3⟩ := ih xs ys (by simp at hn ⊢; omega) (by simpa [U.over] using hm)
            rw [show tr (.c :: xs) (.c :: ys) = tr xs ys by simp [tr]]
            refine ⟨by simp [U.makes, h1], by simp [U.makes, h2], fun f s hs => ?_⟩
            cases s with
            | nil => simp [U.over] at hs
            | cons a s => simp only [U.app, List.drop_succ_cons, List.drop_zero]; rw [h3 f s (by simpa [U.over] using hs)]

abbrev pre (a : List U × List U) (b : List U × List U) : List U × List U := (a.1 ++ b.1, a.2 ++ b.2)
theorem tr_put1 (q : Part) (xs ys : List U) (h : q.1 = 3) : tr (ex1 q ++ xs) ys = pre (ex1 q, List.replicate (ex1 q).length .k) (tr xs ys) := by
  rw [ex1_put h]
  induction q.2.2 with
  | nil => rfl
  | cons b s ih =>
    rw [List.map_cons, List.cons_append, tr_p, ih]
    simp [pre, List.replicate_succ]
theorem tr_put2 (q : Part) (xs ys : List U) (h : q.1 = 3) (hx : noPut xs) : tr xs (ex1 q ++ ys) = pre (List.replicate (ex1 q).length .k, ex1 q) (tr xs ys) := by
  rw [ex1_put h]
  induction q.2.2 with
  | nil => rfl
  | cons b s ih =>
    rw [List.map_cons, List.cons_append, tr_np _ _ _ hx, ih]
    simp [pre, List.replicate_succ]
theorem tr_reps (n : Nat) (x y : U) (a b : List U) (xs ys : List U) (h : ∀ xs ys, tr (x :: xs) (y :: ys) = pre (a, b) (tr xs ys)) :
    tr (List.replicate n x ++ xs) (List.replicate n y ++ ys) = pre ((List.replicate n a).flatten, (List.replicate n b).flatten) (tr xs ys) := by
  induction n with
  | zero => rfl
  | succ n ih =>
    simp only [List.replicate_succ, List.cons_append]
    rw [h, ih]
    simp [pre]
theorem flat_one (n : Nat) (x : U) : (List.replicate n [x]).flatten = List.replicate n x := by induction n with | zero => rfl | succ n ih => simp [List.replicate_succ, ih]
theorem flat_none (n : Nat) : (List.replicate n ([] : List U)).flatten = [] := by induction n with | zero => rfl | succ n ih => simp [List.replicate_succ, ih]
theorem tr_pair (p q : Part) (xs ys : List U) (hp : p.1 = 1 ∨ p.1 = 2) (hq : q.1 = 1 ∨ q.1 = 2) (hl : (ex1 p).length = (ex1 q).length) :
    tr (ex1 p ++ xs) (ex1 q ++ ys) = pre ((if q.1 = 1 then ex1 p else []), (if p.1 = 1 then ex1 q else [])) (tr xs ys) := by
  rcases hp with hp | hp
  · rw [len_keep hp] at hl
    rw [ex1_keep hp]
    rcases hq with hq | hq
    · rw [len_keep hq] at hl
      rw [ex1_keep hq, hl, tr_reps _ _ _ [.k] [.k] _ _ (fun xs ys => by simp [tr, pre]), if_pos hq, if_pos hp, flat_one]
    · rw [len_cut hq] at hl
      rw [ex1_cut hq, hl, tr_reps _ _ _ [] [.c] _ _ (fun xs ys => by simp [tr, pre]), if_neg (by omega), if_pos hp, flat_one, flat_none]
  · rw [len_cut hp] at hl
    rw [ex1_cut hp]
    rcases hq with hq | hq
    · rw [len_keep hq] at hl
      rw [ex1_keep hq, hl, tr_reps _ _ _ [.c] [] _ _ (fun xs ys => by simp [tr, pre]), if_pos hq, if_neg (by omega), flat_one, flat_none]
    · rw [len_cut hq] at hl
      rw [ex1_cut hq, hl, tr_reps _ _ _ [] [] _ _ (fun xs ys => by simp [tr, pre]), if_neg (by omega), if_neg (by omega), flat_none]

theorem tr_keep (ys : List U) : tr (List.replicate (U.over ys) .k) ys = (List.replicate (U.makes ys) .k, ys) := by
  induction ys with
  | nil => simp [U.over, U.makes, tr]
  | cons y ys ih =>
    cases y with
    | p b =>
      simp only [U.over, U.makes, List.replicate_succ]
      rw [tr_np _ _ _ (by cases U.over ys <;> simp [List.replicate_succ, noPut]), ih]
    | k => simp only [U.over, U.makes, List.replicate_succ]; simp [tr, ih]
    | c => simp only [U.over, U.makes, List.replicate_succ]; simp [tr, ih]

/-- the way back -/
def inv : List U → List UInt8 → List U
  | [], _ => []
  | .k :: r, s => .k :: inv r (s.drop 1)
  | .c :: r, [] => inv r []
  | .c :: r, a :: s => .p a :: inv r s
  | .p _ :: r, s => .c :: inv r s
theorem inv_append (xs ys : List U) (s : List UInt8) : inv (xs ++ ys) s = inv xs s ++ inv ys (s.drop (U.over xs)) := by
  induction xs generalizing s with
  | nil => simp [inv, U.over]
  | cons u r ih =>
    cases u with
    | k => simp [inv, ih, U.over, List.drop_drop, Nat.add_comm]
    | c => cases s with
      | nil => simp [inv, ih]
      | cons a s => simp [inv, ih, U.over]
    | p b => simp [inv, ih, U.over]
theorem inv_law (xs : List U) (s : List UInt8) (h : s.length = U.over xs) : U.over (inv xs s) = U.makes xs ∧ U.makes (inv xs s) = U.over xs ∧
    U.app id (inv xs s) (U.app id xs s) = s ∧ inv (inv xs s) (U.app id xs s) = xs := by
  induction xs generalizing s with
  | nil =>
    obtain rfl : s = [] := List.eq_nil_of_length_eq_zero h
    simp [inv, U.over, U.makes, U.app]
  | cons u r ih =>
    cases u with
    | k => cases s with
      | nil => simp [U.over] at h
      | cons a s =>
        obtain ⟨h1, h2, h3, h4⟩ := ih s (by simpa [U.over] using h)
        simp [inv, U.over, U.makes, U.app, h1, h2, h3, h4]
    | c => cases s with
      | nil => simp [U.over] at h
      | cons a s =>
        obtain ⟨h1, h2, h3, h4⟩ := ih s (by simpa [U.over] using h)
        simp [inv, U.over, U.makes, U.app, h1, h2, h3, h4]
    | p b =>
      obtain ⟨h1, h2, h3, h4⟩ := ih s (by simpa [U.over] using h)
      simp [inv, U.over, U.makes, U.app, h1, h2, h3, h4]
/-- block by block -/
def invB (f : Blk) : List Blk → List UInt8 → Blk × List Blk
  | [], s => ((s.take f.2, f.1.length), [])
  | g :: r, s => ((s.take f.2, f.1.length), (invB g r (s.drop (f.2 + 1))).1 :: (invB g r (s.drop (f.2 + 1))).2)
theorem bc_inv (us : List U) (s : List UInt8) : bc (inv us s) = invB (bc us).1 (bc us).2 s := by
  induction us generalizing s with
  | nil => simp [inv, bc, invB]
  | cons u r ih =>
    cases u with
    | k => simp [inv, bc, invB, ih]
    | c =>
      cases s with
      | nil =>
        simp only [inv, bc, ih]
        cases (bc r).2 with
        | nil => simp [invB]
        | cons g t => simp [invB]
      | cons a s =>
        simp only [inv, bc, ih]
        cases (bc r).2 with
        | nil => simp [invB]
        | cons g t => simp [invB]
    | p b =>
      simp only [inv, bc, ih]
      cases (bc r).2 with
      | nil => simp [invB]
      | cons g t => simp [invB]
theorem same_inv {us vs : List U} (h : Same us vs) (s : List UInt8) : nf (inv us s) = nf (inv vs s) := nf_congr (by rw [bc_inv, bc_inv, h.bc])

theorem inv_part (q : Part) (h : okP q) (s : List UInt8) (hs : U.over (ex1 q) ≤ s.length) :
    inv (ex1 q) s = if q.1 = 1 then ex1 q else if q.1 = 2 then (s.take q.2.1.toNat).map .p else List.replicate q.2.2.length .c := by
  obtain ⟨k, n, l⟩ := q
  obtain ⟨hk, hn, h3, h4⟩ := h
  simp only at hk hn h3 h4
  unfold ex1 at hs ⊢
  simp only at hs ⊢
  rcases hk with rfl | rfl | rfl
  · simp only [↓reduceIte] at hs ⊢
    clear hs
    induction n.toNat generalizing s with
    | zero => rfl
    | succ m ih => simp [List.replicate_succ, inv, ih]
  · rw [if_neg (by decide), if_pos rfl] at hs
    rw [if_neg (by decide), if_pos rfl, if_neg (by decide), if_pos rfl]
    rw [U.over_cs] at hs
    generalize n.toNat = m at hs ⊢
    induction m generalizing s with
    | zero => rfl
    | succ m ih =>
      cases s with
      | nil => simp at hs
      | cons a s => simp only [List.replicate_succ, inv, List.take_succ_cons, List.map_cons]; rw [ih s (by simpa using hs)]
  · rw [if_neg (by decide), if_neg (by decide), if_neg (by decide), if_neg (by decide)]
    clear hs h4
    induction l generalizing s with
    | nil => rfl
    | cons b l ih => simp only [List.map_cons, inv, List.length_cons, List.replicate_succ]; rw [ih]

/-- to keep all -/
theorem nf_ks (n : Nat) : ex (nf (List.replicate n .k)) = List.replicate n .k := by
  cases n with
  | zero => rfl
  | succ n =>
    unfold nf stU
    rw [addU_ks]
    unfold doneS
    rw [flushS_keep]
    simp only
    rw [ex_keepOn (nz_flush (by simp)), ex_flush]
    rfl
end Go.Proofs.Ytaibpnblnigkgaa
