/-
  What was packed is unpacked as it was, and what is unpacked is packed to just that, plainly. No conditions.
-/
import Derived.Test.YtmpaaedccodjaaaDoorUnpack
import Derived.Test.YtmpaaedccodjaaaDoorPack
namespace Go.Proofs.YtmpaaedccodjaaaDoor
open Go.RowKit Gx

theorem bytesL_app {a b : List Int} (ha : bytesL a) (hb : bytesL b) : bytesL (a ++ b) := fun x hx => by
  rcases List.mem_append.1 hx with h | h
  · exact ha x h
  · exact hb x h
theorem bytesL_cons {c : Int} {a : List Int} (h0 : 0 ≤ c) (h1 : c ≤ 255) (ha : bytesL a) : bytesL (c :: a) := fun x hx => by
  rcases List.mem_cons.1 hx with h | h
  · subst h; exact ⟨h0, h1⟩
  · exact ha x h
theorem bytesL_nil : bytesL [] := fun x hx => by cases hx
theorem bytesL_right {a b : List Int} (h : bytesL (a ++ b)) : bytesL b := fun x hx => h x (List.mem_append_right _ hx)
theorem bytesL_left {a b : List Int} (h : bytesL (a ++ b)) : bytesL a := fun x hx => h x (List.mem_append_left _ hx)
theorem chainB_bytes (l : List UInt8) : bytesL (chainB l) := by
  unfold chainB
  refine bytesL_app (fun x hx => ?_) (bytesL_cons (by decide) (by decide) (bytesL_cons (by decide) (by decide) bytesL_nil))
  unfold escB at hx
  rw [List.mem_flatMap] at hx
  obtain ⟨c, -, hc⟩ := hx
  have := c.toNat_lt
  unfold isByte
  by_cases h : c = 0
  · rw [if_pos h] at hc
    rcases List.mem_cons.1 hc with h | h
    · omega
    · rw [List.mem_singleton] at h; omega
  · rw [if_neg h, List.mem_singleton] at hc; omega
theorem wordB_bytes {n : Int} (h0 : 0 ≤ n) (h1 : n ≤ 18446744073709551615) : bytesL (wordB n) := by
  unfold wordB
  repeat' (refine bytesL_cons (by omega) (by omega) ?_)
  exact bytesL_nil
theorem flat_bytes {α : Type} (g : α → List Int) : ∀ (xs : List α), (∀ x ∈ xs, bytesL (g x)) → bytesL (xs.flatMap g)
  | [], _ => bytesL_nil
  | x :: xs, h => by
    rw [List.flatMap_cons]
    exact bytesL_app (h x (by simp)) (flat_bytes g xs (fun y hy => h y (by simp [hy])))
theorem pk_bytes {v : V} (h : Good v) : WfAll v → bytesL v.pk := by
  induction h with
  | mk v h hk hl he ihl ihe =>
    intro hw
    have ok := (Good.mk v h hk hl he).ok
    have w0 := hw.own
    have e0 := ok.k0
    have e6 := ok.k6
    rw [pk_eq]
    refine bytesL_cons (by omega) (by omega) ?_
    by_cases h1 : v.k = 1
    · rw [if_pos h1]
      have := ok.n1 h1
      exact bytesL_cons (by omega) (by omega) bytesL_nil
    rw [if_neg h1]
    by_cases h2 : v.k = 2
    · rw [if_pos h2]
      have a1 := w0.n0; have a2 := w0.n1
      exact wordB_bytes (by omega) (by omega)
    rw [if_neg h2]
    by_cases h3 : v.k = 3
    · rw [if_pos h3]
      have a1 := w0.f0; have a2 := w0.f1
      refine wordB_bytes ?_ ?_ <;> (unfold fbits; split <;> omega)
    rw [if_neg h3]
    by_cases h4 : v.k = 4
    · rw [if_pos h4]; exact chainB_bytes _
    rw [if_neg h4]
    by_cases h5 : v.k = 5
    · rw [if_pos h5]
      exact bytesL_app (flat_bytes _ _ (fun x hx => bytesL_cons (by decide) (by decide) (ihl x hx (hw.l x hx)))) (bytesL_cons (by decide) (by decide) bytesL_nil)
    rw [if_neg h5]
    by_cases h6 : v.k = 6
    · rw [if_pos h6]
      exact bytesL_app (flat_bytes _ _ (fun x hx => bytesL_cons (by decide) (by decide) (bytesL_app (chainB_bytes _) (ihe x hx (hw.e x hx))))) (bytesL_cons (by decide) (by decide) bytesL_nil)
    rw [if_neg h6]
    exact bytesL_nil
theorem bytesL_wf {l : List Int} (h : bytesL l) : ∀ x ∈ l, (Lit.int .u8 x).wf = true := fun x hx => by
  have := h x hx
  unfold isByte at this
  have e0 : IntKind.u8.min = 0 := rfl
  have e1 : IntKind.u8.max = 255 := rfl
  simp only [Lit.wf, decide_eq_true_eq, Bool.and_eq_true]
  omega
/-- what was packed is unpacked as it was -/
theorem unpk_pk {v : V} (h : chkV v = 0) (hw : WfAll v) : unpk v.pk = (v, 0) := by
  have := pval_pk 20 v 0 h hw 1001 (by decide) []
  rw [List.append_nil] at this
  unfold unpk
  rw [this]
  show (if chkV v = 0 then (v, 0) else (V.zero, chkV v)) = _
  rw [if_pos h]

/-! what is unpacked is packed to just that -/
def u8s (x : List Int) : List UInt8 := x.map fun n => UInt8.ofNat n.toNat
theorem strOf_data (x : List Int) : (strOf x).data.toList = u8s x := by simp [strOf, u8s]
theorem pchain_back : ∀ (n : Nat) (l x rest : List Int), l.length ≤ n → bytesL l → pchain l = some (x, rest) → l = chainB (u8s x) ++ rest
  | 0, l, x, rest, hn, _, h => by
    have : l = [] := List.eq_nil_of_length_eq_zero (by omega)
    subst this
    simp [pchain] at h
  | n + 1, [], x, rest, hn, _, h => by simp [pchain] at h
  | n + 1, c :: l, x, rest, hn, hb, h => by
    have hc := hb.head
    by_cases h0 : c = 0
    · subst h0
      cases l with
      | nil => rw [pchain_zero0] at h; cases h
      | cons d l =>
        rw [pchain_zero] at h
        by_cases hd : d = 0
        · rw [if_pos hd] at h
          cases h
          subst hd
          rfl
        · rw [if_neg hd] at h
          by_cases hd' : d = 255
          · rw [if_pos hd'] at h
            obtain ⟨y, hy, hyx⟩ := Option.map_eq_some_iff.1 h
            cases hyx
            have ih := pchain_back n l y.1 y.2 (by simp at hn; omega) hb.tail.tail hy
            subst hd'
            have e : u8s (0 :: y.1) = 0 :: u8s y.1 := rfl
            rw [e]
            have e2 : chainB (0 :: u8s y.1) = 0 :: 255 :: chainB (u8s y.1) := by simp [chainB, escB]
            rw [e2, List.cons_append, List.cons_append, ← ih]
          · rw [if_neg hd'] at h; cases h
    · rw [pchain_other h0] at h
      obtain ⟨y, hy, hyx⟩ := Option.map_eq_some_iff.1 h
      cases hyx
      have ih := pchain_back n l y.1 y.2 (by simp at hn; omega) hb.tail hy
      have e : u8s (c :: y.1) = UInt8.ofNat c.toNat :: u8s y.1 := rfl
      rw [e]
      have hz : (UInt8.ofNat c.toNat).toNat = c.toNat := by
        rw [UInt8.toNat_ofNat']; omega
      have hz0 : ¬ UInt8.ofNat c.toNat = 0 := fun e => by
        have := congrArg UInt8.toNat e
        rw [hz] at this
        simp at this
        omega
      have e2 : chainB (UInt8.ofNat c.toNat :: u8s y.1) = c :: chainB (u8s y.1) := by
        simp only [chainB, escB, List.flatMap_cons, if_neg hz0, hz]
        rw [show ((c.toNat : Nat) : Int) = c by omega]
        rfl
      rw [e2, List.cons_append, ← ih]
theorem pword_back {l rest : List Int} {n : Int} (hb : bytesL l) (h : pword l = some (n, rest)) : l = wordB n ++ rest ∧ 0 ≤ n ∧ n ≤ 18446744073709551615 := by
  unfold pword at h
  split at h
  next a b c d e f g i l =>
    have h1 : n = ((((((a * 256 + b) * 256 + c) * 256 + d) * 256 + e) * 256 + f) * 256 + g) * 256 + i := by
      have := congrArg Prod.fst (Option.some.inj h)
      exact this.symm
    have h2 : l = rest := congrArg Prod.snd (Option.some.inj h)
    subst h2
    have b1 := hb.head
    have b2 := hb.tail.head
    have b3 := hb.tail.tail.head
    have b4 := hb.tail.tail.tail.head
    have b5 := hb.tail.tail.tail.tail.head
    have b6 := hb.tail.tail.tail.tail.tail.head
    have b7 := hb.tail.tail.tail.tail.tail.tail.head
    have b8 := hb.tail.tail.tail.tail.tail.tail.tail.head
    clear h hb
    refine ⟨?_, by omega, by omega⟩
    unfold wordB
    have e1 : n / 72057594037927936 = a := by omega
    have e2 : n / 281474976710656 % 256 = b := by omega
    have e3 : n / 1099511627776 % 256 = c := by omega
    have e4 : n / 4294967296 % 256 = d := by omega
    have e5 : n / 16777216 % 256 = e := by omega
    have e6 : n / 65536 % 256 = f := by omega
    have e7 : n / 256 % 256 = g := by omega
    have e8 : n % 256 = i := by omega
    rw [e1, e2, e3, e4, e5, e6, e7, e8]
    rfl
  next => cases h
theorem fbits_fback {n : Int} (h0 : 0 ≤ n) (h1 : n ≤ 18446744073709551615) : fbits (fback n) = n := by
  unfold fback fbits
  by_cases h : n < 9223372036854775808
  · rw [if_pos h, if_neg (by omega)]; omega
  · rw [if_neg h, if_pos (by omega)]; omega
theorem plist_back {α : Type} {f : List Int → Option (α × List Int)} {g : α → List Int} (hf : ∀ l x r, bytesL l → f l = some (x, r) → l = g x ++ r) : ∀ (n : Nat) (l : List Int) (xs : List α) (rest : List Int), bytesL l → plist f n l = some (xs, rest) →
    l = (xs.flatMap fun x => 1 :: g x) ++ (0 :: rest)
  | 0, l, xs, rest, _, h => by cases h
  | n + 1, [], xs, rest, _, h => by cases h
  | n + 1, c :: l, xs, rest, hb, h => by
    rw [plist_cons] at h
    by_cases h0 : c = 0
    · rw [if_pos h0] at h
      cases h
      subst h0
      rfl
    rw [if_neg h0] at h
    by_cases h1 : c = 1
    · rw [if_pos h1] at h
      subst h1
      obtain ⟨y, hy, hz0⟩ := Option.bind_eq_some_iff.1 h
      obtain ⟨z, hz, hzx⟩ := Option.map_eq_some_iff.1 hz0
      cases hzx
      have e := hf l y.1 y.2 hb.tail hy
      have hb2 : bytesL y.2 := by have := hb.tail; rw [e] at this; exact bytesL_right this
      have ih := plist_back hf n y.2 z.1 z.2 hb2 hz
      rw [List.flatMap_cons, List.append_assoc, ← ih, List.cons_append, ← e]
    · rw [if_neg h1] at h; cases h
theorem pval_back : ∀ (d : Nat) (l : List Int) (v : V) (rest : List Int), bytesL l → pval d l = some (v, rest) → l = v.pk ++ rest
  | 0, l, v, rest, _, h => by cases h
  | d + 1, [], v, rest, _, h => by rw [pval_nil] at h; cases h
  | d + 1, c :: l, v, rest, hb, h => by
    rw [pval_cons] at h
    have ht := hb.tail
    unfold pbody at h
    by_cases h1 : c = 1
    · rw [if_pos h1] at h
      cases h
      subst h1
      rw [pk_eq]
      rfl
    rw [if_neg h1] at h
    by_cases h2 : c = 2
    · rw [if_pos h2] at h
      subst h2
      cases l with
      | nil => cases h
      | cons b l =>
        cases h
        rw [pk_eq]
        rfl
    rw [if_neg h2] at h
    by_cases h3 : c = 3
    · rw [if_pos h3] at h
      subst h3
      obtain ⟨y, hy, hyx⟩ := Option.map_eq_some_iff.1 h
      cases hyx
      obtain ⟨e, -⟩ := pword_back ht hy
      rw [pk_eq]
      show _ = 3 :: wordB (y.1 - 9223372036854775808 + 9223372036854775808) ++ y.2
      rw [show y.1 - 9223372036854775808 + 9223372036854775808 = y.1 by omega, List.cons_append, ← e]
    rw [if_neg h3] at h
    by_cases h4 : c = 4
    · rw [if_pos h4] at h
      subst h4
      obtain ⟨y, hy, hyx⟩ := Option.map_eq_some_iff.1 h
      cases hyx
      obtain ⟨e, b0, b1⟩ := pword_back ht hy
      rw [pk_eq]
      show _ = 4 :: wordB (fbits (fback y.1)) ++ y.2
      rw [fbits_fback b0 b1, List.cons_append, ← e]
    rw [if_neg h4] at h
    by_cases h5 : c = 5
    · rw [if_pos h5] at h
      subst h5
      obtain ⟨y, hy, hyx⟩ := Option.map_eq_some_iff.1 h
      cases hyx
      have e := pchain_back _ l y.1 y.2 (Nat.le_refl _) ht hy
      rw [pk_eq]
      show _ = 5 :: chainB (strOf y.1).data.toList ++ y.2
      rw [strOf_data, List.cons_append, ← e]
    rw [if_neg h5] at h
    by_cases h6 : c = 6
    · rw [if_pos h6] at h
      subst h6
      obtain ⟨y, hy, hyx⟩ := Option.map_eq_some_iff.1 h
      cases hyx
      have e := plist_back (g := V.pk) (fun l x r hb h => pval_back d l x r hb h) _ l y.1 y.2 ht hy
      rw [pk_eq]
      show _ = 6 :: (pkL y.1 ++ [0]) ++ y.2
      rw [List.cons_append, List.append_assoc]
      exact congrArg _ e
    rw [if_neg h6] at h
    by_cases h7 : c = 7
    · rw [if_pos h7] at h
      subst h7
      obtain ⟨y, hy, hyx⟩ := Option.map_eq_some_iff.1 h
      cases hyx
      have e := plist_back (g := fun x : ByteArray × V => chainB x.1.data.toList ++ x.2.pk) (fun l x r hb h => by
        obtain ⟨k, hk, h⟩ := Option.bind_eq_some_iff.1 h
        obtain ⟨z, hz, h⟩ := Option.map_eq_some_iff.1 h
        cases h
        have e1 := pchain_back _ l k.1 k.2 (Nat.le_refl _) hb hk
        have hb2 : bytesL k.2 := by rw [e1] at hb; exact bytesL_right hb
        have e2 := pval_back d k.2 z.1 z.2 hb2 hz
        show l = chainB (strOf k.1).data.toList ++ z.1.pk ++ z.2
        rw [strOf_data, List.append_assoc, ← e2, ← e1]) _ l y.1 y.2 ht hy
      rw [pk_eq]
      show _ = 7 :: (pkE y.1 ++ [0]) ++ y.2
      rw [List.cons_append, List.append_assoc]
      exact congrArg _ e
    rw [if_neg h7] at h
    cases h
theorem unpk_back {l : List Int} (hb : bytesL l) : ((unpk l).2 ≠ 0 → (unpk l).1 = V.zero) ∧ ((unpk l).2 = 0 → chkV (unpk l).1 = 0 ∧ l = (unpk l).1.pk) := by
  unfold unpk
  split
  next v h =>
    by_cases hv : chkV v = 0
    · rw [if_pos hv]
      refine ⟨fun h => absurd rfl h, fun _ => ⟨hv, ?_⟩⟩
      have := pval_back _ _ _ _ hb h
      rwa [List.append_nil] at this
    · rw [if_neg hv]
      exact ⟨fun _ => rfl, fun h => absurd h hv⟩
  next => exact ⟨fun _ => rfl, fun h => by cases h⟩
end Go.Proofs.YtmpaaedccodjaaaDoor
