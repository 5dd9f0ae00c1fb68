/-
  Plain law: changes of a text, byte by byte; their normal form is told by what they do. No conditions.
-/
import Derived.Test.YtaibpnblnigkgaaGx
namespace Go.Proofs.Ytaibpnblnigkgaa

/-- one byte is kept, or cut; or one is put -/
inductive U where
  | k | c | p (b : UInt8)
  deriving DecidableEq

namespace U
def over : List U → Nat
  | [] => 0
  | .k :: r => over r + 1
  | .c :: r => over r + 1
  | .p _ :: r => over r
def makes : List U → Nat
  | [] => 0
  | .k :: r => makes r + 1
  | .c :: r => makes r
  | .p _ :: r => makes r + 1

section
variable {α : Type} (f : UInt8 → α)
/-- what a change makes of a text -/
def app : List U → List α → List α
  | [], _ => []
  | .k :: r, [] => app r []
  | .k :: r, a :: s => a :: app r s
  | .c :: r, s => app r (s.drop 1)
  | .p b :: r, s => f b :: app r s

theorem app_append (xs ys : List U) (s : List α) : app f (xs ++ ys) s = app f xs s ++ app f ys (s.drop (over xs)) := by
  induction xs generalizing s with
  | nil => simp [app, over]
  | cons u r ih =>
    cases u with
    | k => cases s with
      | nil => simp [app, ih]
      | cons a s => simp [app, ih, over]
    | c => simp [app, ih, over, List.drop_drop, Nat.add_comm]
    | p b => simp [app, ih, over]

theorem over_append (xs ys : List U) : over (xs ++ ys) = over xs + over ys := by
  induction xs with
  | nil => simp [over]
  | cons u r ih => cases u <;> simp [over, ih] <;> omega
theorem makes_append (xs ys : List U) : makes (xs ++ ys) = makes xs + makes ys := by
  induction xs with
  | nil => simp [makes]
  | cons u r ih => cases u <;> simp [makes, ih] <;> omega

theorem app_length (xs : List U) (s : List α) (h : over xs = s.length) : (app f xs s).length = makes xs := by
  induction xs generalizing s with
  | nil => simp [app, makes]
  | cons u r ih =>
    cases u with
    | k => cases s with
      | nil => simp [over] at h
      | cons a s => simp only [over, List.length_cons, Nat.add_right_cancel_iff] at h; simp [app, makes, ih s h]
    | c => cases s with
      | nil => simp [over] at h
      | cons a s => simp only [over, List.length_cons, Nat.add_right_cancel_iff] at h; simp [app, makes, ih s h]
    | p b => simp only [over] at h; simp [app, makes, ih s h]
end

theorem over_ks (n : Nat) : over (List.replicate n .k) = n := by induction n with | zero => rfl | succ n ih => simp [List.replicate_succ, over, ih]
theorem over_cs (n : Nat) : over (List.replicate n .c) = n := by induction n with | zero => rfl | succ n ih => simp [List.replicate_succ, over, ih]
theorem over_ps (l : List UInt8) : over (l.map .p) = 0 := by induction l with | nil => rfl | cons a l ih => simp [over, ih]
theorem makes_ks (n : Nat) : makes (List.replicate n .k) = n := by induction n with | zero => rfl | succ n ih => simp [List.replicate_succ, makes, ih]
theorem makes_cs (n : Nat) : makes (List.replicate n .c) = 0 := by induction n with | zero => rfl | succ n ih => simp [List.replicate_succ, makes, ih]
theorem makes_ps (l : List UInt8) : makes (l.map .p) = l.length := by induction l with | nil => rfl | cons a l ih => simp [makes, ih]
theorem app_cs {α : Type} (f : UInt8 → α) (n : Nat) (s : List α) : app f (List.replicate n .c) s = [] := by
  induction n generalizing s with | zero => rfl | succ n ih => simp [List.replicate_succ, app, ih]
theorem app_ps {α : Type} (f : UInt8 → α) (l : List UInt8) (s : List α) : app f (l.map .p) s = l.map f := by
  induction l with | nil => rfl | cons a l ih => simp [app, ih]
theorem app_ks {α : Type} (f : UInt8 → α) (n : Nat) (s : List α) : app f (List.replicate n .k) s = s.take n := by
  induction n generalizing s with
  | zero => simp [app]
  | succ n ih => cases s with
    | nil => simp [List.replicate_succ, app, ih]
    | cons a s => simp [List.replicate_succ, app, ih]
end U

/-- a part: its kind, number and text -/
abbrev Part := Int × Int × List UInt8
def ex1 (q : Part) : List U := if q.1 = 1 then List.replicate q.2.1.toNat .k else if q.1 = 2 then List.replicate q.2.1.toNat .c else q.2.2.map .p
def ex (l : List Part) : List U := l.flatMap ex1
theorem ex_nil : ex [] = [] := rfl
theorem ex_cons (q : Part) (l : List Part) : ex (q :: l) = ex1 q ++ ex l := rfl
theorem ex_append (l m : List Part) : ex (l ++ m) = ex l ++ ex m := by simp [ex]

/-- the builder: what is out; bytes cut and put since the last that is kept -/
abbrev Bst := List Part × Nat × List UInt8
def putOut (p : List UInt8) : List Part := if p = [] then [] else [(3, 0, p)]
def cutOut (c : Nat) : List Part := if c = 0 then [] else [(2, (c : Int), [])]
def flushS (st : Bst) : Bst := (st.1 ++ putOut st.2.2 ++ cutOut st.2.1, 0, [])
/-- n bytes are kept behind these parts -/
def keepOn (l : List Part) (n : Nat) : List Part :=
  match l.getLast? with
  | some q => if q.1 = 1 then l.dropLast ++ [(1, q.2.1 + n, q.2.2)] else l ++ [(1, (n : Int), [])]
  | none => l ++ [(1, (n : Int), [])]
def addS (st : Bst) (q : Part) : Bst :=
  if q.1 = 3 then (st.1, st.2.1, st.2.2 ++ q.2.2)
  else if q.1 = 2 then (st.1, st.2.1 + q.2.1.toNat, st.2.2)
  else if q.2.1 = 0 then st
  else (keepOn (flushS st).1 q.2.1.toNat, 0, [])
def doneS (st : Bst) : List Part := (flushS st).1
def addU (st : Bst) : U → Bst
  | .k => (keepOn (flushS st).1 1, 0, [])
  | .c => (st.1, st.2.1 + 1, st.2.2)
  | .p b => (st.1, st.2.1, st.2.2 ++ [b])
abbrev b0 : Bst := ([], 0, [])
def stU (us : List U) : Bst := us.foldl addU b0
def nf (us : List U) : List Part := doneS (stU us)

theorem keepOn_snoc (l : List Part) (q : Part) (n : Nat) (h : q.1 = 1) : keepOn (l ++ [q]) n = l ++ [(1, q.2.1 + n, q.2.2)] := by
  unfold keepOn
  simp [h]
theorem keepOn_ends (l : List Part) (n : Nat) : ∃ m q, keepOn l n = m ++ [q] ∧ q.1 = 1 ∧ q.2.1 = (match l.getLast? with | some z => if z.1 = 1 then z.2.1 + n else (n : Int) | none => (n : Int)) := by
  unfold keepOn
  cases hl : l.getLast? with
  | none => exact ⟨l, _, rfl, rfl, rfl⟩
  | some z =>
    simp only
    by_cases hz : z.1 = 1
    · rw [if_pos hz]; exact ⟨_, _, rfl, rfl, by rw [if_pos hz]⟩
    · rw [if_neg hz]; exact ⟨_, _, rfl, rfl, by rw [if_neg hz]⟩
theorem keepOn_keepOn (l : List Part) (n m : Nat) : keepOn (keepOn l n) m = keepOn l (n + m) := by
  unfold keepOn
  cases hl : l.getLast? with
  | none => simp
  | some z =>
    simp only
    by_cases hz : z.1 = 1
    · rw [if_pos hz, if_pos hz]; simp [Int.add_assoc]
    · rw [if_neg hz, if_neg hz]; simp

theorem flushS_keep (l : List Part) : flushS (l, 0, []) = (l, 0, []) := by simp [flushS, putOut, cutOut]

theorem addU_ks (st : Bst) (n : Nat) : (List.replicate (n + 1) U.k).foldl addU st = (keepOn (flushS st).1 (n + 1), 0, []) := by
  induction n generalizing st with
  | zero => rfl
  | succ n ih =>
    rw [List.replicate_succ, List.foldl_cons, ih]
    show (keepOn (flushS (keepOn (flushS st).1 1, 0, [])).1 (n + 1), 0, []) = _
    rw [flushS_keep, keepOn_keepOn, Nat.add_comm 1 (n + 1)]
theorem addU_cs (st : Bst) (n : Nat) : (List.replicate n U.c).foldl addU st = (st.1, st.2.1 + n, st.2.2) := by
  induction n generalizing st with
  | zero => rfl
  | succ n ih =>
    rw [List.replicate_succ, List.foldl_cons, ih]
    show (st.1, st.2.1 + 1 + n, st.2.2) = _
    rw [Nat.add_assoc, Nat.add_comm 1 n]
theorem addU_ps (st : Bst) (l : List UInt8) : (l.map U.p).foldl addU st = (st.1, st.2.1, st.2.2 ++ l) := by
  induction l generalizing st with
  | nil => simp
  | cons b l ih =>
    rw [List.map_cons, List.foldl_cons, ih]
    show (st.1, st.2.1, (st.2.2 ++ [b]) ++ l) = _
    rw [List.append_assoc]; rfl

/-- a part that may stand in a change -/
def okP (q : Part) : Prop := (q.1 = 1 ∨ q.1 = 2 ∨ q.1 = 3) ∧ 0 ≤ q.2.1 ∧ (q.1 = 3 → q.2.1 = 0) ∧ (q.1 ≠ 3 → q.2.2 = [])

theorem addS_ex (st : Bst) (q : Part) (h : okP q) : addS st q = (ex1 q).foldl addU st := by
  obtain ⟨k, n, s⟩ := q
  obtain ⟨hk, hn, h3, h4⟩ := h
  simp only at hk hn h3 h4
  unfold addS ex1
  simp only
  rcases hk with rfl | rfl | rfl
  · rw [if_neg (by decide), if_neg (by decide), if_pos rfl]
    by_cases h0 : n = 0
    · subst h0; simp
    · rw [if_neg h0]
      obtain ⟨m, hm⟩ : ∃ m : Nat, n.toNat = m + 1 := ⟨n.toNat - 1, by omega⟩
      rw [hm, addU_ks]
  · rw [if_neg (by decide), if_pos rfl, if_neg (by decide), if_pos rfl, addU_cs]
  · rw [if_pos rfl, if_neg (by decide), if_neg (by decide), addU_ps]

theorem stU_add (us : List U) (q : Part) (h : okP q) : addS (stU us) q = stU (us ++ ex1 q) := by
  rw [addS_ex _ _ h]; simp [stU]

/-- blocks: what is put and cut ahead of each byte that is kept, and at the end -/
abbrev Blk := List UInt8 × Nat
def bc : List U → Blk × List Blk
  | [] => (([], 0), [])
  | .k :: r => (([], 0), (bc r).1 :: (bc r).2)
  | .c :: r => (((bc r).1.1, (bc r).1.2 + 1), (bc r).2)
  | .p b :: r => ((b :: (bc r).1.1, (bc r).1.2), (bc r).2)

def joinB (st : Bst) (f : Blk) : Bst := (st.1, st.2.1 + f.2, st.2.2 ++ f.1)
def runB (st : Bst) (f : Blk) (r : List Blk) : Bst := r.foldl (fun st g => joinB (addU st .k) g) (joinB st f)
theorem foldl_runB (us : List U) (st : Bst) : us.foldl addU st = runB st (bc us).1 (bc us).2 := by
  induction us generalizing st with
  | nil => simp [bc, runB, joinB]
  | cons u r ih =>
    rw [List.foldl_cons, ih]
    cases u with
    | k =>
      simp only [bc, runB, List.foldl_cons]
      congr 1
      simp [joinB]
    | c =>
      simp only [bc, runB]
      congr 1
      simp only [joinB, addU]
      rw [Nat.add_assoc, Nat.add_comm 1]
    | p b =>
      simp only [bc, runB]
      congr 1
      simp [joinB, addU]
theorem stU_congr {us vs : List U} (h : bc us = bc vs) : stU us = stU vs := by
  unfold stU; rw [foldl_runB, foldl_runB, h]
theorem nf_congr {us vs : List U} (h : bc us = bc vs) : nf us = nf vs := by unfold nf; rw [stU_congr h]

/-- a text of which no two signs are alike -/
def tags (i : Nat) : Nat → List (UInt8 ⊕ Nat)
  | 0 => []
  | n + 1 => .inr i :: tags (i + 1) n
theorem tags_len (i n : Nat) : (tags i n).length = n := by induction n generalizing i with | zero => rfl | succ n ih => simp [tags, ih]
def appB (f : Blk) : List Blk → Nat → List (UInt8 ⊕ Nat)
  | [], _ => f.1.map .inl
  | g :: r, i => f.1.map .inl ++ .inr (i + f.2) :: appB g r (i + f.2 + 1)
def overB (f : Blk) : List Blk → Nat
  | [] => f.2
  | g :: r => f.2 + 1 + overB g r
theorem over_bc (us : List U) : U.over us = overB (bc us).1 (bc us).2 := by
  induction us with
  | nil => rfl
  | cons u r ih =>
    cases u with
    | k => simp only [U.over, bc, overB, ih]; omega
    | c =>
      simp only [U.over, bc, ih]
      cases (bc r).2 with
      | nil => simp [overB]
      | cons g r => simp [overB]; omega
    | p b =>
      simp only [U.over, bc, ih]
      cases (bc r).2 with
      | nil => simp [overB]
      | cons g r => simp [overB]
theorem app_bc (us : List U) (i n : Nat) (h : U.over us = n) : U.app .inl us (tags i n) = appB (bc us).1 (bc us).2 i := by
  induction us generalizing i n with
  | nil => simp [U.app, bc, appB]
  | cons u r ih =>
    cases u with
    | k =>
      simp only [U.over] at h
      subst h
      simp only [tags, U.app, bc, appB, ih (i + 1) _ rfl]
      simp
    | c =>
      simp only [U.over] at h
      subst h
      simp only [tags, U.app, bc, List.drop_succ_cons, List.drop_zero, ih (i + 1) _ rfl]
      cases (bc r).2 with
      | nil => simp [appB]
      | cons g t => simp only [appB]; rw [show i + 1 + (bc r).1.2 = i + ((bc r).1.2 + 1) by omega]
    | p b =>
      simp only [U.over] at h
      simp only [U.app, bc, ih i n h]
      cases (bc r).2 with
      | nil => simp [appB]
      | cons g t => simp [appB]
theorem map_inl_split : ∀ (l m : List UInt8) (a b : Nat) (s t : List (UInt8 ⊕ Nat)), l.map Sum.inl ++ .inr a :: s = m.map Sum.inl ++ .inr b :: t → l = m ∧ a = b ∧ s = t
  | [], [], a, b, s, t, h => by simp at h; exact ⟨rfl, h.1, h.2⟩
  | [], _ :: _, _, _, _, _, h => by simp at h
  | _ :: _, [], _, _, _, _, h => by simp at h
  | x :: l, y :: m, a, b, s, t, h => by
    simp only [List.map_cons, List.cons_append, List.cons.injEq, Sum.inl.injEq] at h
    obtain ⟨h1, h2, h3⟩ := map_inl_split l m a b s t h.2
    exact ⟨by rw [h.1, h1], h2, h3⟩
theorem map_inl_inj : ∀ (l m : List UInt8), l.map (Sum.inl : UInt8 → UInt8 ⊕ Nat) = m.map Sum.inl → l = m
  | [], [], _ => rfl
  | [], _ :: _, h => by simp at h
  | _ :: _, [], h => by simp at h
  | x :: l, y :: m, h => by
    simp only [List.map_cons, List.cons.injEq, Sum.inl.injEq] at h
    rw [h.1, map_inl_inj l m h.2]
theorem map_inl_end (l m : List UInt8) (a : Nat) (s : List (UInt8 ⊕ Nat)) : l.map Sum.inl ≠ m.map Sum.inl ++ .inr a :: s := by
  intro h
  have : (Sum.inr a : UInt8 ⊕ Nat) ∈ l.map Sum.inl := by rw [h]; simp
  simp at this
theorem appB_inj : ∀ (r r' : List Blk) (f f' : Blk) (i : Nat), appB f r i = appB f' r' i → overB f r = overB f' r' → f = f' ∧ r = r'
  | [], [], f, f', i, h, ho => by
    simp only [appB] at h
    simp only [overB] at ho
    exact ⟨Prod.ext (map_inl_inj _ _ h) ho, rfl⟩
  | [], g :: r, f, f', i, h, ho => by
    simp only [appB] at h
    exact absurd h (map_inl_end _ _ _ _)
  | g :: r, [], f, f', i, h, ho => by
    simp only [appB] at h
    exact absurd h.symm (map_inl_end _ _ _ _)
  | g :: r, g' :: r', f, f', i, h, ho => by
    simp only [appB] at h
    simp only [overB] at ho
    obtain ⟨h1, h2, h3⟩ := map_inl_split _ _ _ _ _ _ h
    have h4 : f.2 = f'.2 := by omega
    rw [h4] at h3
    obtain ⟨rfl, rfl⟩ := appB_inj r r' g g' _ h3 (by omega)
    exact ⟨Prod.ext h1 h4, rfl⟩
/-- changes of as many bytes that do the same are the same, block by block -/
theorem bc_of_app {us vs : List U} (ho : U.over us = U.over vs) (h : U.app .inl us (tags 0 (U.over us)) = U.app .inl vs (tags 0 (U.over us))) : bc us = bc vs := by
  rw [app_bc us 0 _ rfl, app_bc vs 0 _ ho.symm] at h
  obtain ⟨h1, h2⟩ := appB_inj _ _ _ _ _ h (by rw [← over_bc, ← over_bc, ho])
  exact Prod.ext h1 h2

/-- two changes that do the same -/
structure Same (us vs : List U) : Prop where
  over : U.over us = U.over vs
  makes : U.makes us = U.makes vs
  app : ∀ {α : Type} (f : UInt8 → α) (s : List α), U.app f us s = U.app f vs s
theorem Same.refl (us : List U) : Same us us := ⟨rfl, rfl, fun _ _ => rfl⟩
theorem Same.symm {us vs : List U} (h : Same us vs) : Same vs us := ⟨h.over.symm, h.makes.symm, fun f s => (h.app f s).symm⟩
theorem Same.trans {us vs ws : List U} (h : Same us vs) (k : Same vs ws) : Same us ws := ⟨h.over.trans k.over, h.makes.trans k.makes, fun f s => (h.app f s).trans (k.app f s)⟩
theorem Same.append {us vs xs ys : List U} (h : Same us vs) (k : Same xs ys) : Same (us ++ xs) (vs ++ ys) :=
  ⟨by rw [U.over_append, U.over_append, h.over, k.over], by rw [U.makes_append, U.makes_append, h.makes, k.makes], fun f s => by rw [U.app_append, U.app_append, h.app, k.app, h.over]⟩
theorem Same.bc {us vs : List U} (h : Same us vs) : bc us = bc vs := bc_of_app h.over (h.app _ _)
theorem Same.nf {us vs : List U} (h : Same us vs) : nf us = nf vs := nf_congr h.bc
/-- what is cut and put in one place: it is no matter which first -/
theorem Same.swap (n : Nat) (l : List UInt8) : Same (List.replicate n U.c ++ l.map U.p) (l.map U.p ++ List.replicate n U.c) :=
  ⟨by rw [U.over_append, U.over_append, Nat.add_comm], by rw [U.makes_append, U.makes_append, Nat.add_comm], fun f s => by rw [U.app_append, U.app_append, U.app_cs, U.app_ps, U.app_ps, U.app_cs]; simp⟩

def exS (st : Bst) : List U := ex st.1 ++ (st.2.2.map U.p ++ List.replicate st.2.1 U.c)
theorem ex_putOut (p : List UInt8) : ex (putOut p) = p.map U.p := by
  unfold putOut
  by_cases h : p = []
  · subst h; rfl
  · rw [if_neg h]; simp [ex, ex1]
theorem ex_cutOut (c : Nat) : ex (cutOut c) = List.replicate c U.c := by
  unfold cutOut
  by_cases h : c = 0
  · subst h; rfl
  · rw [if_neg h]; simp [ex, ex1]
theorem ex_flush (st : Bst) : ex (flushS st).1 = exS st := by
  unfold flushS exS
  simp only [ex_append, ex_putOut, ex_cutOut, List.append_assoc]

/-- a part that is as builders leave it -/
def nzP (q : Part) : Prop := okP q ∧ 0 < (ex1 q).length
theorem nzP.okP {q : Part} (h : nzP q) : okP q := h.1
theorem nz_put (p : List UInt8) (h : p ≠ []) : nzP (3, 0, p) := by
  refine ⟨⟨.inr (.inr rfl), Int.le_refl _, fun _ => rfl, fun h => absurd rfl h⟩, ?_⟩
  simp [ex1]
  cases p with
  | nil => exact absurd rfl h
  | cons a l => simp
theorem nz_cut (n : Nat) (h : n ≠ 0) : nzP (2, (n : Int), []) := by
  refine ⟨⟨.inr (.inl rfl), by simp, fun h => by simp at h, fun _ => rfl⟩, ?_⟩
  simp [ex1]; omega
theorem nz_keep (n : Int) (h : 0 < n) : nzP (1, n, []) := by
  refine ⟨⟨.inl rfl, by simp; omega, fun h => by simp at h, fun _ => rfl⟩, ?_⟩
  simp [ex1]; omega
theorem nz_putOut (p : List UInt8) : ∀ q ∈ putOut p, nzP q := by
  intro q hq
  unfold putOut at hq
  split at hq
  · simp at hq
  · rename_i h; simp at hq; subst hq; exact nz_put p h
theorem nz_cutOut (c : Nat) : ∀ q ∈ cutOut c, nzP q := by
  intro q hq
  unfold cutOut at hq
  split at hq
  · simp at hq
  · rename_i h; simp at hq; subst hq; exact nz_cut c h
theorem nz_flush {st : Bst} (h : ∀ q ∈ st.1, nzP q) : ∀ q ∈ (flushS st).1, nzP q := by
  intro q hq
  unfold flushS at hq
  simp only [List.mem_append] at hq
  rcases hq with (hq | hq) | hq
  · exact h q hq
  · exact nz_putOut _ q hq
  · exact nz_cutOut _ q hq

/-- the parts with n kept behind them -/
theorem ex_keepOn {l : List Part} (h : ∀ q ∈ l, nzP q) (n : Nat) : ex (keepOn l n) = ex l ++ List.replicate n U.k := by
  unfold keepOn
  cases hl : l.getLast? with
  | none => simp [ex, ex1]
  | some z =>
    simp only
    by_cases hz : z.1 = 1
    · rw [if_pos hz]
      have hd : l = l.dropLast ++ [z] := by
        have hne : l ≠ [] := by intro e; subst e; simp at hl
        have h1 := List.dropLast_concat_getLast hne
        rw [List.getLast?_eq_some_getLast hne] at hl
        rw [Option.some.inj hl] at h1
        exact h1.symm
      have hm : z ∈ l := by rw [hd]; simp
      obtain ⟨⟨-, h0, -, -⟩, -⟩ := h z hm
      conv => rhs; rw [hd]
      rw [ex_append, ex_append, List.append_assoc]
      congr 1
      obtain ⟨k, m, s⟩ := z
      simp only at hz h0
      subst hz
      simp only [ex, ex1, List.flatMap_cons, List.flatMap_nil, List.append_nil, ↓reduceIte]
      rw [show (m + (n : Int)).toNat = m.toNat + n by omega, List.replicate_append_replicate]
    · rw [if_neg hz]
      simp [ex, ex1]
theorem nz_keepOn {l : List Part} (h : ∀ q ∈ l, nzP q) (n : Nat) (hn : 0 < n) : ∀ q ∈ keepOn l n, nzP q := by
  intro q hq
  unfold keepOn at hq
  cases hl : l.getLast? with
  | none =>
    rw [hl] at hq
    simp only [List.mem_append, List.mem_singleton] at hq
    rcases hq with hq | rfl
    · exact h q hq
    · exact nz_keep _ (by omega)
  | some z =>
    rw [hl] at hq
    simp only at hq
    by_cases hz : z.1 = 1
    · rw [if_pos hz] at hq
      simp only [List.mem_append, List.mem_singleton] at hq
      rcases hq with hq | rfl
      · exact h q (List.dropLast_subset l hq)
      · obtain ⟨⟨-, h0, -, h4⟩, -⟩ := h z (List.mem_of_getLast? hl)
        rw [h4 (by rw [hz]; decide)]
        exact nz_keep _ (by omega)
    · rw [if_neg hz] at hq
      simp only [List.mem_append, List.mem_singleton] at hq
      rcases hq with hq | rfl
      · exact h q hq
      · exact nz_keep _ (by omega)

theorem stU_snoc (us : List U) (u : U) : stU (us ++ [u]) = addU (stU us) u := by simp [stU]
theorem snoc_ind {motive : List U → Prop} (h0 : motive []) (h1 : ∀ us u, motive us → motive (us ++ [u])) (us : List U) : motive us := by
  have : ∀ l : List U, motive l.reverse := by
    intro l
    induction l with
    | nil => exact h0
    | cons u r ih => rw [List.reverse_cons]; exact h1 _ _ ih
  have h := this us.reverse
  rwa [List.reverse_reverse] at h
theorem nz_st (us : List U) : ∀ q ∈ (stU us).1, nzP q := by
  induction us using snoc_ind with
  | h0 => intro q hq; simp [stU] at hq
  | h1 us u ih =>
    rw [stU_snoc]
    cases u with
    | k => exact nz_keepOn (nz_flush ih) 1 (by decide)
    | c => exact ih
    | p b => exact ih
theorem nz_nf (us : List U) : ∀ q ∈ nf us, nzP q := nz_flush (nz_st us)

/-- the builder does what it was told to -/
theorem same_st (us : List U) : Same (exS (stU us)) us := by
  induction us using snoc_ind with
  | h0 => exact Same.refl _
  | h1 us u ih =>
    rw [stU_snoc]
    refine Same.trans ?_ (ih.append (Same.refl [u]))
    cases u with
    | k =>
      unfold addU
      unfold exS
      simp only [List.map_nil, List.replicate_zero, List.append_nil]
      rw [ex_keepOn (nz_flush (nz_st us)), ex_flush]
      exact Same.refl _
    | c =>
      unfold addU exS
      simp only [List.replicate_succ', List.append_assoc]
      exact Same.refl _
    | p b =>
      unfold addU exS
      simp only [List.map_append, List.append_assoc, List.map_cons, List.map_nil]
      exact (Same.refl _).append ((Same.refl _).append (Same.swap _ [b]).symm)
theorem same_nf (us : List U) : Same (ex (nf us)) us := by
  unfold nf doneS
  rw [ex_flush]
  exact same_st us
theorem nf_nf (us : List U) : nf (ex (nf us)) = nf us := (same_nf us).nf
end Go.Proofs.Ytaibpnblnigkgaa
