/-
  Plain law: a part is taken in pieces; two feeds run dry together. No conditions.
-/
import Derived.Test.YtaibpnblnigkgaaSpliceLaw2
namespace Go.Proofs.Ytaibpnblnigkgaa

/-- the next part; of kind 0 at the end -/
def headP : List Part → Part
  | [] => (0, 0, [])
  | q :: _ => q
def takeP (p : Part) (n : Nat) : Part := if n < (ex1 p).length then (p.1, (if p.1 = 3 then 0 else (n : Int)), p.2.2.take n) else p
def leftP (p : Part) (n : Nat) : List Part := if n < (ex1 p).length then [(p.1, (if p.1 = 3 then 0 else p.2.1 - n), p.2.2.drop n)] else []

theorem leftP_all (p : Part) (n : Nat) (h : (ex1 p).length ≤ n) : leftP p n = [] := by unfold leftP; rw [if_neg (by omega)]
theorem takeP_all (p : Part) (n : Nat) (h : (ex1 p).length ≤ n) : takeP p n = p := by unfold takeP; rw [if_neg (by omega)]
theorem takeP_kind (p : Part) (n : Nat) : (takeP p n).1 = p.1 := by unfold takeP; split <;> rfl
theorem takeP_ex (p : Part) (n : Nat) (h : okP p) : ex1 (takeP p n) = (ex1 p).take n := by
  by_cases hn : n < (ex1 p).length
  · unfold takeP
    rw [if_pos hn]
    obtain ⟨k, m, s⟩ := p
    obtain ⟨hk, h0, h3, h4⟩ := h
    simp only at hk h0 h3 h4 hn ⊢
    rcases hk with rfl | rfl | rfl
    · rw [len_keep rfl] at hn
      simp only at hn
      simp [ex1, List.take_replicate]; omega
    · rw [len_cut rfl] at hn
      simp only at hn
      simp [ex1, List.take_replicate]; omega
    · simp [ex1, List.map_take]
  · rw [takeP_all p n (by omega), List.take_of_length_le (by omega)]
theorem leftP_ex (p : Part) (n : Nat) (h : okP p) : ex (leftP p n) = (ex1 p).drop n := by
  by_cases hn : n < (ex1 p).length
  · unfold leftP
    rw [if_pos hn]
    obtain ⟨k, m, s⟩ := p
    obtain ⟨hk, h0, h3, h4⟩ := h
    simp only at hk h0 h3 h4 hn ⊢
    rcases hk with rfl | rfl | rfl
    · rw [len_keep rfl] at hn
      simp only at hn
      simp [ex, ex1, List.drop_replicate]
    · rw [len_cut rfl] at hn
      simp only at hn
      simp [ex, ex1, List.drop_replicate]
    · simp [ex, ex1, List.map_drop]
  · rw [leftP_all p n (by omega), List.drop_eq_nil_of_le (by omega)]; rfl
theorem takeP_ok (p : Part) (n : Nat) (h : okP p) : okP (takeP p n) := by
  by_cases hn : n < (ex1 p).length
  · unfold takeP
    rw [if_pos hn]
    obtain ⟨k, m, s⟩ := p
    obtain ⟨hk, h0, h3, h4⟩ := h
    simp only at hk h0 h3 h4 ⊢
    refine ⟨hk, ?_, fun e => by simp at e; simp [e], fun e => by simp at e; simp [h4 e]⟩
    simp only
    split <;> omega
  · rw [takeP_all p n (by omega)]; exact h
theorem leftP_nz (p : Part) (n : Nat) (h : nzP p) : ∀ q ∈ leftP p n, nzP q := by
  intro q hq
  have he := leftP_ex p n h.1
  by_cases hn : n < (ex1 p).length
  · unfold leftP at hq he
    rw [if_pos hn] at hq he
    simp only [List.mem_singleton] at hq
    rw [← hq] at he
    have hlen : (ex1 q).length = (ex1 p).length - n := by
      have := congrArg List.length he
      simpa [ex] using this
    refine ⟨?_, by omega⟩
    have hk := len_ex1 p h.1
    obtain ⟨k, m, s⟩ := p
    obtain ⟨⟨hk', h0, h3, h4⟩, -⟩ := h
    simp only at hk hk' h0 h3 h4 hn hq
    subst hq
    refine ⟨hk', ?_, fun e => by simp at e; simp [e], fun e => by simp at e; simp [h4 e]⟩
    simp only
    by_cases h5 : k = 3
    · rw [if_pos h5]; omega
    · rw [if_neg h5]
      have := h4 h5
      subst this
      simp at hk
      omega
  · rw [leftP_all p n (by omega)] at hq; simp at hq
theorem nz_rest {p : Part} {n : Nat} {l : List Part} (h : ∀ q ∈ p :: l, nzP q) : ∀ q ∈ leftP p n ++ l, nzP q := by
  intro q hq
  rcases List.mem_append.1 hq with hq | hq
  · exact leftP_nz p n (h p (by simp)) q hq
  · exact h q (by simp [hq])
theorem leftP_len (p : Part) (n : Nat) : (leftP p n).length ≤ 1 ∧ ((ex1 p).length ≤ n → (leftP p n).length = 0) := by
  unfold leftP
  split
  · exact ⟨by simp, fun h => by omega⟩
  · exact ⟨by simp, fun _ => rfl⟩
theorem takeP_bd (p : Part) (n : Nat) (h : okP p) : (takeP p n).2.1 ≤ (ex1 p).length ∧ (takeP p n).2.2.length ≤ (ex1 p).length := by
  have h1 := len_ex1 _ (takeP_ok p n h)
  have h2 := congrArg List.length (takeP_ex p n h)
  rw [List.length_take] at h2
  obtain ⟨-, h0, -, -⟩ := takeP_ok p n h
  omega
theorem ex_split (p : Part) (n : Nat) (l : List Part) (h : okP p) : ex (p :: l) = ex1 (takeP p n) ++ ex (leftP p n ++ l) := by
  rw [ex_cons, ex_append, takeP_ex p n h, leftP_ex p n h, ← List.append_assoc, List.take_append_drop]
theorem takeP_len (p : Part) (n : Nat) (h : okP p) (hn : n ≤ (ex1 p).length) : (ex1 (takeP p n)).length = n := by
  rw [takeP_ex p n h, List.length_take]; omega

theorem over_kc {q : Part} (h : okP q) (h3 : q.1 ≠ 3) : U.over (ex1 q) = (ex1 q).length := by
  have h1 := over_ex1 q h
  have h2 := len_ex1 q h
  rw [if_neg h3] at h1
  rw [h.2.2.2 h3] at h2
  simp at h2
  omega
theorem makes_kp {q : Part} (h : okP q) (h2 : q.1 ≠ 2) : U.makes (ex1 q) = (ex1 q).length := by
  have h1 := makes_ex1 q h
  have h3 := len_ex1 q h
  rw [if_neg h2] at h1
  omega
theorem makes_cut {q : Part} (h2 : q.1 = 2) : U.makes (ex1 q) = 0 := by rw [ex1_cut h2, U.makes_cs]
theorem over_put {q : Part} (h2 : q.1 = 3) : U.over (ex1 q) = 0 := by rw [ex1_put h2, U.over_ps]

theorem noPut_list {l : List Part} (h : ∀ q ∈ l, nzP q) (h3 : (headP l).1 ≠ 3) : noPut (ex l) := by
  cases l with
  | nil => exact trivial
  | cons q r => exact noPut_part q (ex r) h3 (h q (by simp))

/-- where the one makes what the other goes over: what stands next -/
theorem comp_next {rx ry : List Part} (hx : ∀ q ∈ rx, nzP q) (hy : ∀ q ∈ ry, nzP q) (hm : U.makes (ex rx) = U.over (ex ry)) (h3 : (headP ry).1 ≠ 3) (h2 : (headP rx).1 ≠ 2) (hne : (headP rx).1 ≠ 0 ∨ (headP ry).1 ≠ 0) :
    ∃ p rx' q ry', rx = p :: rx' ∧ ry = q :: ry' ∧ (p.1 = 1 ∨ p.1 = 3) ∧ (q.1 = 1 ∨ q.1 = 2) := by
  cases rx with
  | nil =>
    cases ry with
    | nil => rcases hne with h | h <;> exact absurd rfl h
    | cons q ry =>
      have hq := hy q (by simp)
      rw [ex_cons, U.over_append, over_kc hq.1 (show q.1 ≠ 3 from h3)] at hm
      have := hq.2
      have e0 : U.makes (ex []) = 0 := rfl
      rw [e0] at hm
      omega
  | cons p rx =>
    have hp := hx p (by simp)
    cases ry with
    | nil =>
      rw [ex_cons, U.makes_append, makes_kp hp.1 (show p.1 ≠ 2 from h2)] at hm
      have := hp.2
      have e0 : U.over (ex []) = 0 := rfl
      rw [e0] at hm
      omega
    | cons q ry =>
      have hq := hy q (by simp)
      refine ⟨p, rx, q, ry, rfl, rfl, ?_, ?_⟩
      · rcases hp.1.1 with h | h | h
        · exact .inl h
        · exact absurd h h2
        · exact .inr h
      · rcases hq.1.1 with h | h | h
        · exact .inl h
        · exact .inr h
        · exact absurd h h3
/-- where both go over as much -/
theorem tr_next {rx ry : List Part} (hx : ∀ q ∈ rx, nzP q) (hy : ∀ q ∈ ry, nzP q) (hm : U.over (ex rx) = U.over (ex ry)) (h3 : (headP ry).1 ≠ 3) (h2 : (headP rx).1 ≠ 3) (hne : (headP rx).1 ≠ 0 ∨ (headP ry).1 ≠ 0) :
    ∃ p rx' q ry', rx = p :: rx' ∧ ry = q :: ry' ∧ (p.1 = 1 ∨ p.1 = 2) ∧ (q.1 = 1 ∨ q.1 = 2) := by
  cases rx with
  | nil =>
    cases ry with
    | nil => rcases hne with h | h <;> exact absurd rfl h
    | cons q ry =>
      have hq := hy q (by simp)
      rw [ex_cons, U.over_append, over_kc hq.1 (show q.1 ≠ 3 from h3)] at hm
      have := hq.2
      have e0 : U.over (ex []) = 0 := rfl
      rw [e0] at hm
      omega
  | cons p rx =>
    have hp := hx p (by simp)
    cases ry with
    | nil =>
      rw [ex_cons, U.over_append, over_kc hp.1 (show p.1 ≠ 3 from h2)] at hm
      have := hp.2
      have e0 : U.over (ex []) = 0 := rfl
      rw [e0] at hm
      omega
    | cons q ry =>
      have hq := hy q (by simp)
      refine ⟨p, rx, q, ry, rfl, rfl, ?_, ?_⟩
      · rcases hp.1.1 with h | h | h
        · exact .inl h
        · exact .inr h
        · exact absurd h h2
      · rcases hq.1.1 with h | h | h
        · exact .inl h
        · exact .inr h
        · exact absurd h h3
theorem headP_zero {l : List Part} (h : ∀ q ∈ l, nzP q) (h0 : (headP l).1 = 0) : l = [] := by
  cases l with
  | nil => rfl
  | cons q r =>
    have := (h q (by simp)).1.1
    simp only [headP] at h0
    omega

/-- what is under way: so much is out, and what is left makes the rest -/
structure CompSt (A B : List U) (us : List U) (rx ry : List Part) : Prop where
  eq : comp A B = us ++ comp (ex rx) (ex ry)
  ml : U.makes (ex rx) = U.over (ex ry)
  nx : ∀ q ∈ rx, nzP q
  ny : ∀ q ∈ ry, nzP q
  lx : (ex rx).length ≤ A.length
  ly : (ex ry).length ≤ B.length

theorem len_mem {q : Part} {l : List Part} (h : q ∈ l) : (ex1 q).length ≤ (ex l).length := by
  induction l with
  | nil => simp at h
  | cons a r ih =>
    rw [ex_cons, List.length_append]
    rcases List.mem_cons.1 h with rfl | h
    · omega
    · have := ih h; omega

theorem CompSt.put {A B us : List U} {rx ry : List Part} {q : Part} (h : CompSt A B us rx (q :: ry)) (hq : q.1 = 3) : CompSt A B (us ++ ex1 q) rx ry := by
  refine ⟨?_, ?_, h.nx, fun x hx => h.ny x (by simp [hx]), h.lx, ?_⟩
  · rw [h.eq, ex_cons, comp_put q _ _ hq, List.append_assoc]
  · have := h.ml
    rw [ex_cons, U.over_append, over_put hq] at this
    omega
  · have := h.ly
    rw [ex_cons, List.length_append] at this
    omega
theorem CompSt.cut {A B us : List U} {rx ry : List Part} {p : Part} (h : CompSt A B us (p :: rx) ry) (hp : p.1 = 2) (h3 : (headP ry).1 ≠ 3) : CompSt A B (us ++ ex1 p) rx ry := by
  refine ⟨?_, ?_, fun x hx => h.nx x (by simp [hx]), h.ny, ?_, h.ly⟩
  · rw [h.eq, ex_cons, comp_cut p _ _ hp (noPut_list h.ny h3), List.append_assoc]
  · have := h.ml
    rw [ex_cons, U.makes_append, makes_cut hp] at this
    omega
  · have := h.lx
    rw [ex_cons, List.length_append] at this
    omega
theorem CompSt.pair {A B us : List U} {rx ry : List Part} {p q : Part} (h : CompSt A B us (p :: rx) (q :: ry)) (hp : p.1 = 1 ∨ p.1 = 3) (hq : q.1 = 1 ∨ q.1 = 2) (n : Nat) (hn1 : n ≤ (ex1 p).length) (hn2 : n ≤ (ex1 q).length) :
    CompSt A B (us ++ (if p.1 = 1 then ex1 (takeP q n) else if q.1 = 1 then ex1 (takeP p n) else [])) (leftP p n ++ rx) (leftP q n ++ ry) := by
  have hpo := (h.nx p (by simp)).1
  have hqo := (h.ny q (by simp)).1
  have lp := takeP_len p n hpo hn1
  have lq := takeP_len q n hqo hn2
  have sp := ex_split p n rx hpo
  have sq := ex_split q n ry hqo
  have kp := takeP_kind p n
  have kq := takeP_kind q n
  refine ⟨?_, ?_, nz_rest h.nx, nz_rest h.ny, ?_, ?_⟩
  · rw [h.eq, sp, sq, comp_pair (takeP p n) (takeP q n) _ _ (by rw [kp]; exact hp) (by rw [kq]; exact hq) (by rw [lp, lq]), kp, kq, List.append_assoc]
  · have := h.ml
    rw [sp, sq, U.makes_append, U.over_append, makes_kp (takeP_ok p n hpo) (by rw [kp]; omega), over_kc (takeP_ok q n hqo) (by rw [kq]; omega), lp, lq] at this
    omega
  · have := h.lx
    rw [sp, List.length_append] at this
    omega
  · have := h.ly
    rw [sq, List.length_append] at this
    omega
theorem CompSt.small {A B us : List U} {rx ry : List Part} (h : CompSt A B us rx ry) (hm : U.makes A = U.over B) : U.over us ≤ U.over A ∧ U.makes us ≤ U.makes B := by
  obtain ⟨h1, h2, -⟩ := comp_law _ A B (Nat.le_refl _) hm
  rw [h.eq, U.over_append] at h1
  rw [h.eq, U.makes_append] at h2
  omega

/-- over each other, under way -/
structure TrSt (A B : List U) (us vs : List U) (rx ry : List Part) : Prop where
  eq : tr A B = pre (us, vs) (tr (ex rx) (ex ry))
  ml : U.over (ex rx) = U.over (ex ry)
  nx : ∀ q ∈ rx, nzP q
  ny : ∀ q ∈ ry, nzP q
  lx : (ex rx).length ≤ A.length
  ly : (ex ry).length ≤ B.length

theorem pre_pre (a b c d : List U) (t : List U × List U) : pre (a, b) (pre (c, d) t) = pre (a ++ c, b ++ d) t := by simp [pre]
theorem ex1_keepN (n : Nat) : ex1 (1, (n : Int), []) = List.replicate n .k := by simp [ex1]

theorem TrSt.put1 {A B us vs : List U} {rx ry : List Part} {p : Part} (h : TrSt A B us vs (p :: rx) ry) (hp : p.1 = 3) : TrSt A B (us ++ ex1 p) (vs ++ ex1 (1, ((ex1 p).length : Int), [])) rx ry := by
  refine ⟨?_, ?_, fun x hx => h.nx x (by simp [hx]), h.ny, ?_, h.ly⟩
  · rw [h.eq, ex_cons, tr_put1 p _ _ hp, pre_pre, ex1_keepN]
  · have := h.ml
    rw [ex_cons, U.over_append, over_put hp] at this
    omega
  · have := h.lx
    rw [ex_cons, List.length_append] at this
    omega
theorem TrSt.put2 {A B us vs : List U} {rx ry : List Part} {q : Part} (h : TrSt A B us vs rx (q :: ry)) (hq : q.1 = 3) (h3 : (headP rx).1 ≠ 3) : TrSt A B (us ++ ex1 (1, ((ex1 q).length : Int), [])) (vs ++ ex1 q) rx ry := by
  refine ⟨?_, ?_, h.nx, fun x hx => h.ny x (by simp [hx]), h.lx, ?_⟩
  · rw [h.eq, ex_cons, tr_put2 q _ _ hq (noPut_list h.nx h3), pre_pre, ex1_keepN]
  · have := h.ml
    rw [ex_cons, U.over_append, over_put hq] at this
    omega
  · have := h.ly
    rw [ex_cons, List.length_append] at this
    omega
theorem TrSt.pair {A B us vs : List U} {rx ry : List Part} {p q : Part} (h : TrSt A B us vs (p :: rx) (q :: ry)) (hp : p.1 = 1 ∨ p.1 = 2) (hq : q.1 = 1 ∨ q.1 = 2) (n : Nat) (hn1 : n ≤ (ex1 p).length) (hn2 : n ≤ (ex1 q).length) :
    TrSt A B (us ++ (if q.1 = 1 then ex1 (takeP p n) else [])) (vs ++ (if p.1 = 1 then ex1 (takeP q n) else [])) (leftP p n ++ rx) (leftP q n ++ ry) := by
  have hpo := (h.nx p (by simp)).1
  have hqo := (h.ny q (by simp)).1
  have lp := takeP_len p n hpo hn1
  have lq := takeP_len q n hqo hn2
  have sp := ex_split p n rx hpo
  have sq := ex_split q n ry hqo
  have kp := takeP_kind p n
  have kq := takeP_kind q n
  refine ⟨?_, ?_, nz_rest h.nx, nz_rest h.ny, ?_, ?_⟩
  · rw [h.eq, sp, sq, tr_pair (takeP p n) (takeP q n) _ _ (by rw [kp]; exact hp) (by rw [kq]; exact hq) (by rw [lp, lq]), kp, kq, pre_pre]
  · have := h.ml
    rw [sp, sq, U.over_append, U.over_append, over_kc (takeP_ok p n hpo) (by rw [kp]; omega), over_kc (takeP_ok q n hqo) (by rw [kq]; omega), lp, lq] at this
    omega
  · have := h.lx
    rw [sp, List.length_append] at this
    omega
  · have := h.ly
    rw [sq, List.length_append] at this
    omega

/-- how much they make over each other -/
theorem tr_makes (n : Nat) : ∀ (xs ys : List U), xs.length + ys.length ≤ n → U.makes (tr xs ys).1 ≤ U.makes xs + U.makes ys ∧ U.makes (tr xs ys).2 ≤ U.makes xs + U.makes ys := by
  induction n with
  | zero =>
    intro xs ys hn
    obtain rfl : xs = [] := List.eq_nil_of_length_eq_zero (by omega)
    obtain rfl : ys = [] := List.eq_nil_of_length_eq_zero (by omega)
    simp [tr, U.makes]
  | succ n ih =>
    intro xs ys hn
    have put : ∀ (b : UInt8) (ys' : List U), ys = .p b :: ys' → noPut xs → U.makes (tr xs ys).1 ≤ U.makes xs + U.makes ys ∧ U.makes (tr xs ys).2 ≤ U.makes xs + U.makes ys := by
      intro b ys' e hx
      subst e
      obtain ⟨h1, h2⟩ := ih xs ys' (by simp at hn ⊢; omega)
      rw [tr_np _ _ _ hx]
      simp only [U.makes]
      omega
    cases xs with
    | nil =>
      cases ys with
      | nil => simp [tr, U.makes]
      | cons y ys =>
        cases y with
        | p b => exact put b ys rfl noPut_nil
        | k => simp [tr, U.makes]
        | c => simp [tr, U.makes]
    | cons x xs =>
      cases x with
      | p b =>
        obtain ⟨h1, h2⟩ := ih xs ys (by simp at hn ⊢; omega)
        rw [tr_p]
        simp only [U.makes]
        omega
      | k =>
        cases ys with
        | nil => simp [tr, U.makes]
        | cons y ys =>
          have hi := ih xs ys (by simp at hn ⊢; omega)
          cases y with
          | p b => exact put b ys rfl trivial
          | k =>
            rw [show tr (.k :: xs) (.k :: ys) = (.k :: (tr xs ys).1, .k :: (tr xs ys).2) by simp [tr]]
            simp only [U.makes]
            omega
          | c =>
            rw [show tr (.k :: xs) (.c :: ys) = ((tr xs ys).1, .c :: (tr xs ys).2) by simp [tr]]
            simp only [U.makes]
            omega
      | c =>
        cases ys with
        | nil => simp [tr, U.makes]
        | cons y ys =>
          have hi := ih xs ys (by simp at hn ⊢; omega)
          cases y with
          | p b => exact put b ys rfl trivial
          | k =>
            rw [show tr (.c :: xs) (.k :: ys) = (.c :: (tr xs ys).1, (tr xs ys).2) by simp [tr]]
            simp only [U.makes]
            omega
          | c =>
            rw [show tr (.c :: xs) (.c :: ys) = tr xs ys by simp [tr]]
            simp only [U.makes]
            omega
theorem TrSt.small {A B us vs : List U} {rx ry : List Part} (h : TrSt A B us vs rx ry) (hm : U.over A = U.over B) :
    U.over us ≤ U.makes B ∧ U.makes us ≤ U.makes A + U.makes B ∧ U.over vs ≤ U.makes A ∧ U.makes vs ≤ U.makes A + U.makes B := by
  obtain ⟨h1, h2, -⟩ := tr_law _ A B (Nat.le_refl _) hm
  obtain ⟨h3, h4⟩ := tr_makes _ A B (Nat.le_refl _)
  rw [h.eq] at h1 h2 h3 h4
  simp only [pre] at h1 h2 h3 h4
  rw [U.over_append] at h1 h2
  rw [U.makes_append] at h3 h4
  omega
end Go.Proofs.Ytaibpnblnigkgaa
