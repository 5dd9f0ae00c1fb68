/-
  Bytes read as a value, plainly; what was packed is read as it was; what is read is packed to just that. No conditions.
-/
import Derived.Test.YtmpaaedccodjaaaDoorPackLaw
import Derived.Test.YtmpaaedccodjaaaDoorWfAll
namespace Go.Proofs.YtmpaaedccodjaaaDoor
open Go.RowKit Gx

/-- a text, as its bytes are escaped; and what stands behind it -/
def pchain : List Int → Option (List Int × List Int)
  | [] => none
  | c :: l =>
    if c = 0 then
      match l with
      | [] => none
      | d :: l' => if d = 0 then some ([], l') else if d = 255 then (pchain l').map fun x => (0 :: x.1, x.2) else none
    else (pchain l).map fun x => (c :: x.1, x.2)
/-- eight bytes -/
def pword : List Int → Option (Int × List Int)
  | a :: b :: c :: d :: e :: f :: g :: h :: l => some (((((((a * 256 + b) * 256 + c) * 256 + d) * 256 + e) * 256 + f) * 256 + g) * 256 + h, l)
  | _ => none
/-- parts, as long as there are more -/
def plist {α : Type} (f : List Int → Option (α × List Int)) : Nat → List Int → Option (List α × List Int)
  | 0, _ => none
  | n + 1, l =>
    match l with
    | [] => none
    | c :: l => if c = 0 then some ([], l) else if c = 1 then (f l).bind fun x => (plist f n x.2).map fun y => (x.1 :: y.1, y.2) else none
/-- a text of such bytes -/
def strOf (l : List Int) : ByteArray := ⟨(l.map fun n => UInt8.ofNat n.toNat).toArray⟩
/-- the bits of a fraction that are told by these -/
def fback (n : Int) : Int := if n < 9223372036854775808 then 18446744073709551615 - n else n - 9223372036854775808
/-- a value, d levels being left -/
def pval : Nat → List Int → Option (V × List Int)
  | 0, _ => none
  | d + 1, l =>
    match l with
    | [] => none
    | c :: l =>
      if c = 1 then some (.mk 0 0 0 ⟨#[]⟩ [] [], l)
      else if c = 2 then match l with | [] => none | b :: l => some (.mk 1 b 0 ⟨#[]⟩ [] [], l)
      else if c = 3 then (pword l).map fun x => (.mk 2 (x.1 - 9223372036854775808) 0 ⟨#[]⟩ [] [], x.2)
      else if c = 4 then (pword l).map fun x => (.mk 3 0 (fback x.1) ⟨#[]⟩ [] [], x.2)
      else if c = 5 then (pchain l).map fun x => (.mk 4 0 0 (strOf x.1) [] [], x.2)
      else if c = 6 then (plist (pval d) (l.length + 1) l).map fun x => (.mk 5 0 0 ⟨#[]⟩ x.1 [], x.2)
      else if c = 7 then (plist (fun l => (pchain l).bind fun k => (pval d k.2).map fun x => ((strOf k.1, x.1), x.2)) (l.length + 1) l).map fun x => (.mk 6 0 0 ⟨#[]⟩ [] x.1, x.2)
      else none
def isByte (n : Int) : Prop := 0 ≤ n ∧ n ≤ 255
def bytesL (l : List Int) : Prop := ∀ x ∈ l, isByte x

theorem pchain_zero (d : Int) (l : List Int) : pchain (0 :: d :: l) = if d = 0 then some ([], l) else if d = 255 then (pchain l).map fun x => (0 :: x.1, x.2) else none := by
  rw [pchain.eq_def]
  simp only [if_true]
theorem pchain_zero0 : pchain [0] = none := by rw [pchain.eq_def]; simp only [if_true]
theorem pchain_other {c : Int} (hc : c ≠ 0) (l : List Int) : pchain (c :: l) = (pchain l).map fun x => (c :: x.1, x.2) := by
  rw [pchain.eq_def]
  simp only [if_neg hc]
theorem plist_cons {α : Type} (f : List Int → Option (α × List Int)) (n : Nat) (c : Int) (l : List Int) : plist f (n + 1) (c :: l) = if c = 0 then some ([], l) else if c = 1 then (f l).bind fun x => (plist f n x.2).map fun y => (x.1 :: y.1, y.2) else none := rfl
theorem plist_nil {α : Type} (f : List Int → Option (α × List Int)) (n : Nat) : plist f n [] = none := by cases n <;> rfl
/-- what a value's kind asks for -/
def pbody (d : Nat) (c : Int) (l : List Int) : Option (V × List Int) :=
  if c = 1 then some (.mk 0 0 0 ⟨#[]⟩ [] [], l)
      else if c = 2 then (match l with | [] => none | b :: l => some (.mk 1 b 0 ⟨#[]⟩ [] [], l))
      else if c = 3 then (pword l).map fun x => (.mk 2 (x.1 - 9223372036854775808) 0 ⟨#[]⟩ [] [], x.2)
      else if c = 4 then (pword l).map fun x => (.mk 3 0 (fback x.1) ⟨#[]⟩ [] [], x.2)
      else if c = 5 then (pchain l).map fun x => (.mk 4 0 0 (strOf x.1) [] [], x.2)
      else if c = 6 then (plist (pval d) (l.length + 1) l).map fun x => (.mk 5 0 0 ⟨#[]⟩ x.1 [], x.2)
      else if c = 7 then (plist (fun l => (pchain l).bind fun k => (pval d k.2).map fun x => ((strOf k.1, x.1), x.2)) (l.length + 1) l).map fun x => (.mk 6 0 0 ⟨#[]⟩ [] x.1, x.2)
      else none
theorem pval_cons (d : Nat) (c : Int) (l : List Int) : pval (d + 1) (c :: l) = pbody d c l := by
  rw [pval.eq_def]
  rfl
theorem pval_nil (d : Nat) : pval d [] = none := by cases d <;> rw [pval.eq_def]

/-! what was packed -/
theorem pchain_chain : ∀ (l : List UInt8) (rest : List Int), pchain (chainB l ++ rest) = some (l.map (fun c => (c.toNat : Int)), rest)
  | [], rest => by simp [chainB, escB, pchain]
  | c :: l, rest => by
    have ih := pchain_chain l rest
    have e : chainB (c :: l) ++ rest = (if c = 0 then [0, 255] else [(c.toNat : Int)]) ++ (chainB l ++ rest) := by simp [chainB, escB]
    rw [e]
    by_cases h : c = 0
    · rw [if_pos h]
      show pchain (0 :: 255 :: (chainB l ++ rest)) = _
      rw [pchain_zero, if_neg (by decide), if_pos rfl, ih, h]
      rfl
    · rw [if_neg h]
      have h1 : c.toNat ≠ 0 := fun e => h (UInt8.toNat_inj.1 e)
      show pchain ((c.toNat : Int) :: (chainB l ++ rest)) = _
      rw [pchain_other (by omega), ih]
      rfl
theorem strOf_bytes (s : ByteArray) : strOf (s.data.toList.map (fun c => (c.toNat : Int))) = s := by
  unfold strOf
  rw [List.map_map]
  have : (fun n : Int => UInt8.ofNat n.toNat) ∘ (fun c : UInt8 => (c.toNat : Int)) = id := by
    funext c
    simp
  rw [this, List.map_id]
theorem pword_word {n : Int} (h0 : 0 ≤ n) (h1 : n ≤ 18446744073709551615) (rest : List Int) : pword (wordB n ++ rest) = some (n, rest) := by
  show some _ = some _
  congr 1
  refine Prod.ext ?_ rfl
  show ((((((n / 72057594037927936 * 256 + n / 281474976710656 % 256) * 256 + n / 1099511627776 % 256) * 256 + n / 4294967296 % 256) * 256 + n / 16777216 % 256) * 256 + n / 65536 % 256) * 256 + n / 256 % 256) * 256 + n % 256 = n
  have e1 : n / 72057594037927936 * 256 + n / 281474976710656 % 256 = n / 281474976710656 := by omega
  rw [e1]
  have e2 : n / 281474976710656 * 256 + n / 1099511627776 % 256 = n / 1099511627776 := by omega
  rw [e2]
  have e3 : n / 1099511627776 * 256 + n / 4294967296 % 256 = n / 4294967296 := by omega
  rw [e3]
  have e4 : n / 4294967296 * 256 + n / 16777216 % 256 = n / 16777216 := by omega
  rw [e4]
  have e5 : n / 16777216 * 256 + n / 65536 % 256 = n / 65536 := by omega
  rw [e5]
  have e6 : n / 65536 * 256 + n / 256 % 256 = n / 256 := by omega
  rw [e6]
  omega
theorem fback_fbits {f : Int} (h0 : 0 ≤ f) (h1 : f ≤ 18446744073709551615) : fback (fbits f) = f := by
  unfold fback fbits
  by_cases h : f < 9223372036854775808
  · rw [if_pos h, if_neg (by omega)]; omega
  · rw [if_neg h, if_pos (by omega)]; omega
theorem plist_parts {α : Type} {f : List Int → Option (α × List Int)} {g : α → List Int} : ∀ (xs : List α) (n : Nat) (rest : List Int), (∀ x ∈ xs, ∀ r, f (g x ++ r) = some (x, r)) → xs.length < n →
    plist f n ((xs.flatMap fun x => 1 :: g x) ++ (0 :: rest)) = some (xs, rest)
  | [], n + 1, rest, _, _ => by simp [plist]
  | x :: xs, n + 1, rest, h, hn => by
    have e : ((x :: xs).flatMap fun x => 1 :: g x) ++ (0 :: rest) = 1 :: (g x ++ ((xs.flatMap fun x => 1 :: g x) ++ (0 :: rest))) := by simp
    rw [e, plist_cons, if_neg (by decide), if_pos rfl, h x (by simp), Option.bind_some, plist_parts xs n rest (fun y hy => h y (by simp [hy])) (by simp at hn; omega)]
    rfl
theorem flat_len {α : Type} (g : α → List Int) (xs : List α) : xs.length ≤ (xs.flatMap fun x => 1 :: g x).length := by
  induction xs with
  | nil => simp
  | cons x xs ih => simp only [List.flatMap_cons, List.length_append, List.length_cons]; omega
/-- what was packed is read as it was -/
theorem pval_pk : ∀ (d : Nat) (v : V) (m : Nat), (chk d v m).1 = 0 → WfAll v → ∀ (D : Nat), d ≤ D → ∀ rest, pval D (v.pk ++ rest) = some (v, rest)
  | 0, v, m, h, _, _, _, _ => by simp only [chk] at h; split at h <;> cases h
  | d + 1, v, m, h, hw, 0, hD, rest => by omega
  | d + 1, v, m, h, hw, D + 1, hD, rest => by
    have hg := (pk_len (d + 1) v m h).1
    have ok := hg.ok
    simp only [chk] at h
    by_cases h1 : 2000 < m + 1
    · rw [if_pos h1] at h; cases h
    rw [if_neg h1] at h
    by_cases h2 : ownV v ≠ 0
    · rw [if_pos h2] at h; exact absurd h h2
    rw [if_neg h2] at h
    by_cases h3 : keyE none v.e ≠ 0
    · rw [if_pos h3] at h; exact absurd h h3
    rw [if_neg h3] at h
    have hall : ∀ (xs : List V) (m : Nat), (chkAll (chk d) xs m).1 = 0 → ∀ x ∈ xs, ∃ m', (chk d x m').1 = 0 := by
      intro xs
      induction xs with
      | nil => intro m _ x hx; cases hx
      | cons y ys ih =>
        intro m hm x hx
        have e : chkAll (chk d) (y :: ys) m = if (chk d y m).1 = 0 then chkAll (chk d) ys (chk d y m).2 else chk d y m := rfl
        rw [e] at hm
        by_cases hy : (chk d y m).1 = 0
        · rw [if_pos hy] at hm
          rcases List.mem_cons.1 hx with rfl | hx
          · exact ⟨m, hy⟩
          · exact ih _ hm x hx
        · rw [if_neg hy] at hm; exact absurd hm hy
    have hL : ∀ x ∈ v.l, ∀ r, pval D (x.pk ++ r) = some (x, r) := fun x hx r => by
      obtain ⟨m', hm'⟩ := hall _ _ h x (List.mem_append_left _ hx)
      exact pval_pk d x m' hm' (hw.l x hx) D (by omega) r
    have hE : ∀ x ∈ v.e, ∀ r, pval D (x.2.pk ++ r) = some (x.2, r) := fun x hx r => by
      obtain ⟨m', hm'⟩ := hall _ _ h x.2 (List.mem_append_right _ (List.mem_map_of_mem hx))
      exact pval_pk d x.2 m' hm' (hw.e x hx) D (by omega) r
    have w0 := hw.own
    have h6 : v.k = 0 ∨ v.k = 1 ∨ v.k = 2 ∨ v.k = 3 ∨ v.k = 4 ∨ v.k = 5 ∨ v.k = 6 := by have := ok.k0; have := ok.k6; omega
    rw [pk_eq, List.cons_append, pval_cons]
    unfold pbody
    rcases h6 with h6 | h6 | h6 | h6 | h6 | h6 | h6
    · simp only [h6, show ¬ ((0 : Int) = 1) by decide, show ¬ ((0 : Int) = 2) by decide, show ¬ ((0 : Int) = 3) by decide, show ¬ ((0 : Int) = 4) by decide, show ¬ ((0 : Int) = 5) by decide, show ¬ ((0 : Int) = 6) by decide, if_false]
      rw [if_pos (by decide)]
      exact congrArg some (Prod.ext (V.ext' h6.symm (ok.n (by omega) (by omega)).symm (ok.f (by omega)).symm (ok.s (by omega)).symm (ok.l (by omega)).symm (ok.e (by omega)).symm) rfl)
    · rw [if_pos h6, if_neg (by omega), if_pos (by omega)]
      exact congrArg some (Prod.ext (V.ext' h6.symm rfl (ok.f (by omega)).symm (ok.s (by omega)).symm (ok.l (by omega)).symm (ok.e (by omega)).symm) rfl)
    · rw [if_neg (show ¬ v.k = 1 by omega), if_pos h6, if_neg (by omega), if_neg (by omega), if_pos (by omega)]
      have a1 := w0.n0; have a2 := w0.n1
      rw [pword_word (by omega) (by omega)]
      exact congrArg some (Prod.ext (V.ext' h6.symm (by show v.n + 9223372036854775808 - 9223372036854775808 = v.n; omega) (ok.f (by omega)).symm (ok.s (by omega)).symm (ok.l (by omega)).symm (ok.e (by omega)).symm) rfl)
    · rw [if_neg (show ¬ v.k = 1 by omega), if_neg (show ¬ v.k = 2 by omega), if_pos h6, if_neg (by omega), if_neg (by omega), if_neg (by omega), if_pos (by omega)]
      have hb : 0 ≤ fbits v.f ∧ fbits v.f ≤ 18446744073709551615 := by have := w0.f0; have := w0.f1; unfold fbits; split <;> omega
      rw [pword_word hb.1 hb.2]
      exact congrArg some (Prod.ext (V.ext' h6.symm (ok.n (by omega) (by omega)).symm (fback_fbits w0.f0 w0.f1) (ok.s (by omega)).symm (ok.l (by omega)).symm (ok.e (by omega)).symm) rfl)
    · rw [if_neg (show ¬ v.k = 1 by omega), if_neg (show ¬ v.k = 2 by omega), if_neg (show ¬ v.k = 3 by omega), if_pos h6, if_neg (by omega), if_neg (by omega), if_neg (by omega), if_neg (by omega), if_pos (by omega)]
      rw [pchain_chain]
      exact congrArg some (Prod.ext (V.ext' h6.symm (ok.n (by omega) (by omega)).symm (ok.f (by omega)).symm (strOf_bytes _) (ok.l (by omega)).symm (ok.e (by omega)).symm) rfl)
    · rw [if_neg (show ¬ v.k = 1 by omega), if_neg (show ¬ v.k = 2 by omega), if_neg (show ¬ v.k = 3 by omega), if_neg (show ¬ v.k = 4 by omega), if_pos h6, if_neg (by omega), if_neg (by omega), if_neg (by omega), if_neg (by omega), if_neg (by omega), if_pos (by omega)]
      have := plist_parts (f := pval D) (g := V.pk) v.l ((pkL v.l ++ [0] ++ rest).length + 1) rest hL (by
        have := flat_len V.pk v.l
        simp only [pkL, List.length_append] at this ⊢; omega)
      rw [List.append_assoc] at this ⊢
      rw [show pkL v.l ++ ([0] ++ rest) = (v.l.flatMap fun x => 1 :: x.pk) ++ (0 :: rest) from rfl] at this ⊢
      rw [this]
      exact congrArg some (Prod.ext (V.ext' h6.symm (ok.n (by omega) (by omega)).symm (ok.f (by omega)).symm (ok.s (by omega)).symm rfl (ok.e (by omega)).symm) rfl)
    · rw [if_neg (show ¬ v.k = 1 by omega), if_neg (show ¬ v.k = 2 by omega), if_neg (show ¬ v.k = 3 by omega), if_neg (show ¬ v.k = 4 by omega), if_neg (show ¬ v.k = 5 by omega), if_pos h6, if_neg (by omega), if_neg (by omega), if_neg (by omega), if_neg (by omega), if_neg (by omega), if_neg (by omega), if_pos (by omega)]
      have := plist_parts (f := fun l => (pchain l).bind fun k => (pval D k.2).map fun x => ((strOf k.1, x.1), x.2)) (g := fun x : ByteArray × V => chainB x.1.data.toList ++ x.2.pk) v.e ((pkE v.e ++ [0] ++ rest).length + 1) rest (fun x hx r => by
          rw [List.append_assoc, pchain_chain, Option.bind_some]
          simp only
          rw [hE x hx, strOf_bytes]
          rfl) (by
        have := flat_len (fun x : ByteArray × V => chainB x.1.data.toList ++ x.2.pk) v.e
        simp only [pkE, List.length_append] at this ⊢; omega)
      rw [List.append_assoc] at this ⊢
      rw [show pkE v.e ++ ([0] ++ rest) = (v.e.flatMap fun x => 1 :: (chainB x.1.data.toList ++ x.2.pk)) ++ (0 :: rest) from rfl] at this ⊢
      rw [this]
      exact congrArg some (Prod.ext (V.ext' h6.symm (ok.n (by omega) (by omega)).symm (ok.f (by omega)).symm (ok.s (by omega)).symm (ok.l (by omega)).symm rfl) rfl)
end Go.Proofs.YtmpaaedccodjaaaDoor
