/-
  Bytes stand in the order of their values: texts, lists, tables, values. No conditions.
-/
import Derived.Test.YtmpaaedccodjaaaDoorOrderLaw
import Derived.Test.YtmpaaedccodjaaaDoorWfAll
namespace Go.Proofs.YtmpaaedccodjaaaDoor
open Go.RowKit Gx

/-- texts in their order, as lists -/
def sgnT : List UInt8 → List UInt8 → Int
  | [], [] => 0
  | [], _ :: _ => -1
  | _ :: _, [] => 1
  | a :: x, b :: y => if a < b then -1 else if b < a then 1 else sgnT x y
theorem sgnT_eq : ∀ (x y : List UInt8), sgnT x y = if Op.bytesLess x y then -1 else if (Op.bytesLess x y || x == y) then 0 else 1
  | [], [] => by simp [sgnT, Op.bytesLess]
  | [], _ :: _ => by simp [sgnT, Op.bytesLess]
  | _ :: _, [] => by simp [sgnT, Op.bytesLess]
  | a :: x, b :: y => by
    have ih := sgnT_eq x y
    simp only [sgnT, Op.bytesLess]
    by_cases h1 : a < b
    · simp [h1]
    by_cases h2 : a = b
    · subst h2
      simp [ih]
    · have h3 : b < a := by
        rw [UInt8.lt_iff_toNat_lt] at h1 ⊢
        have : a.toNat ≠ b.toNat := fun e => h2 (UInt8.toNat_inj.1 e)
        omega
      simp [h1, h2, h3]
theorem sgnB_eq (a b : ByteArray) : sgnB a b = sgnT a.data.toList b.data.toList := by
  rw [sgnT_eq]
  unfold sgnB
  rw [ByteArray.toList_eq, ByteArray.toList_eq]
theorem u8_cases (a b : UInt8) : (a < b ∧ ¬ b < a ∧ (a.toNat : Int) < b.toNat) ∨ (b < a ∧ ¬ a < b ∧ (b.toNat : Int) < a.toNat) ∨ (a = b ∧ ¬ a < b ∧ ¬ b < a) := by
  rw [UInt8.lt_iff_toNat_lt, UInt8.lt_iff_toNat_lt]
  by_cases h : a = b
  · subst h; exact .inr (.inr ⟨rfl, by omega, by omega⟩)
  · have : a.toNat ≠ b.toNat := fun e => h (UInt8.toNat_inj.1 e)
    by_cases h2 : a.toNat < b.toNat
    · exact .inl ⟨h2, by omega, by omega⟩
    · exact .inr (.inl ⟨by omega, by omega, by omega⟩)
theorem escB_cons (c : UInt8) (l : List UInt8) : chainB (c :: l) = (if c = 0 then [0, 255] else [(c.toNat : Int)]) ++ chainB l := by
  simp [chainB, escB]
theorem chain_dif : ∀ (x y : List UInt8), (x = y ∧ sgnT x y = 0) ∨ Dif (sgnT x y) (chainB x) (chainB y)
  | [], [] => .inl ⟨rfl, rfl⟩
  | [], b :: y => by
    refine .inr ?_
    rw [escB_cons]
    by_cases h : b = 0
    · rw [if_pos h]
      exact ⟨[0], 0, 255, [], chainB y, rfl, rfl, by omega, by omega, by omega, by omega, .inl ⟨by omega, rfl⟩⟩
    · rw [if_neg h]
      have h1 : b.toNat ≠ 0 := fun e => h (UInt8.toNat_inj.1 e)
      have h2 := b.toNat_lt
      exact ⟨[], 0, (b.toNat : Int), [0], chainB y, rfl, rfl, by omega, by omega, by omega, by omega, .inl ⟨by omega, rfl⟩⟩
  | a :: x, [] => by
    refine .inr ?_
    rw [escB_cons]
    by_cases h : a = 0
    · rw [if_pos h]
      exact ⟨[0], 255, 0, chainB x, [], rfl, rfl, by omega, by omega, by omega, by omega, .inr ⟨by omega, rfl⟩⟩
    · rw [if_neg h]
      have h1 : a.toNat ≠ 0 := fun e => h (UInt8.toNat_inj.1 e)
      have h2 := a.toNat_lt
      exact ⟨[], (a.toNat : Int), 0, chainB x, [0], rfl, rfl, by omega, by omega, by omega, by omega, .inr ⟨by omega, rfl⟩⟩
  | a :: x, b :: y => by
    have ha := a.toNat_lt
    have hb := b.toNat_lt
    rcases u8_cases a b with ⟨h1, h2, h3⟩ | ⟨h1, h2, h3⟩ | ⟨rfl, h1, h2⟩
    · refine .inr ?_
      rw [sgnT, if_pos h1, escB_cons, escB_cons, if_neg (show ¬ b = 0 from fun e => by rw [e] at h3; have : (0 : UInt8).toNat = 0 := rfl; omega)]
      by_cases h0 : a = 0
      · rw [if_pos h0]
        exact ⟨[], 0, (b.toNat : Int), 255 :: chainB x, chainB y, rfl, rfl, by omega, by omega, by omega, by omega, .inl ⟨by omega, rfl⟩⟩
      · rw [if_neg h0]
        exact ⟨[], (a.toNat : Int), (b.toNat : Int), chainB x, chainB y, rfl, rfl, by omega, by omega, by omega, by omega, .inl ⟨h3, rfl⟩⟩
    · refine .inr ?_
      rw [sgnT, if_neg h2, if_pos h1, escB_cons, escB_cons, if_neg (show ¬ a = 0 from fun e => by rw [e] at h3; have : (0 : UInt8).toNat = 0 := rfl; omega)]
      by_cases h0 : b = 0
      · rw [if_pos h0]
        exact ⟨[], (a.toNat : Int), 0, chainB x, 255 :: chainB y, rfl, rfl, by omega, by omega, by omega, by omega, .inr ⟨by omega, rfl⟩⟩
      · rw [if_neg h0]
        exact ⟨[], (a.toNat : Int), (b.toNat : Int), chainB x, chainB y, rfl, rfl, by omega, by omega, by omega, by omega, .inr ⟨h3, rfl⟩⟩
    · rw [sgnT, if_neg h1, if_neg h2, escB_cons, escB_cons]
      rcases chain_dif x y with ⟨rfl, h⟩ | h
      · exact .inl ⟨rfl, h⟩
      · exact .inr (h.pre _)
theorem bytes_inj {a b : ByteArray} (h : a.data.toList = b.data.toList) : a = b := by
  cases a; cases b; congr 1; exact Array.toList_inj.1 h
theorem chainB_dif (a b : ByteArray) : (a = b ∧ sgnB a b = 0) ∨ Dif (sgnB a b) (chainB a.data.toList) (chainB b.data.toList) := by
  rw [sgnB_eq]
  rcases chain_dif a.data.toList b.data.toList with ⟨h, h2⟩ | h
  · exact .inl ⟨bytes_inj h, h2⟩
  · exact .inr h

/-- lists -/
theorem pkL_dif {f : V → V → Int} : ∀ (l l' : List V), (∀ x ∈ l, ∀ y ∈ l', (x = y ∧ f x y = 0) ∨ Dif (f x y) x.pk y.pk) → (l = l' ∧ cmpL f l l' = 0) ∨ Dif (cmpL f l l') (pkL l ++ [0]) (pkL l' ++ [0])
  | [], [], _ => .inl ⟨rfl, rfl⟩
  | [], y :: ys, _ => .inr ⟨[], 0, 1, [], y.pk ++ (pkL ys ++ [0]), rfl, by simp [pkL], by omega, by omega, by omega, by omega, .inl ⟨by omega, rfl⟩⟩
  | x :: xs, [], _ => .inr ⟨[], 1, 0, x.pk ++ (pkL xs ++ [0]), [], by simp [pkL], rfl, by omega, by omega, by omega, by omega, .inr ⟨by omega, rfl⟩⟩
  | x :: xs, y :: ys, h => by
    have e1 : pkL (x :: xs) ++ [0] = 1 :: (x.pk ++ (pkL xs ++ [0])) := by simp [pkL]
    have e2 : pkL (y :: ys) ++ [0] = 1 :: (y.pk ++ (pkL ys ++ [0])) := by simp [pkL]
    rw [e1, e2, cmpL]
    rcases h x (by simp) y (by simp) with ⟨rfl, h0⟩ | hd
    · rw [if_neg (fun g => g h0)]
      rcases pkL_dif xs ys (fun a ha b hb => h a (by simp [ha]) b (by simp [hb])) with ⟨rfl, hz⟩ | hd
      · exact .inl ⟨rfl, hz⟩
      · exact .inr ((hd.pre _).cons _)
    · rw [if_pos hd.ne]
      exact .inr ((hd.app _ _).cons _)
/-- tables -/
theorem pkE_dif {f : V → V → Int} : ∀ (l l' : List (ByteArray × V)), (∀ x ∈ l, ∀ y ∈ l', (x.2 = y.2 ∧ f x.2 y.2 = 0) ∨ Dif (f x.2 y.2) x.2.pk y.2.pk) → (l = l' ∧ cmpL (cmpEn f) l l' = 0) ∨ Dif (cmpL (cmpEn f) l l') (pkE l ++ [0]) (pkE l' ++ [0])
  | [], [], _ => .inl ⟨rfl, rfl⟩
  | [], y :: ys, _ => .inr ⟨[], 0, 1, [], chainB y.1.data.toList ++ (y.2.pk ++ (pkE ys ++ [0])), rfl, by simp [pkE], by omega, by omega, by omega, by omega, .inl ⟨by omega, rfl⟩⟩
  | x :: xs, [], _ => .inr ⟨[], 1, 0, chainB x.1.data.toList ++ (x.2.pk ++ (pkE xs ++ [0])), [], by simp [pkE], rfl, by omega, by omega, by omega, by omega, .inr ⟨by omega, rfl⟩⟩
  | x :: xs, y :: ys, h => by
    have e1 : pkE (x :: xs) ++ [0] = 1 :: (chainB x.1.data.toList ++ (x.2.pk ++ (pkE xs ++ [0]))) := by simp [pkE]
    have e2 : pkE (y :: ys) ++ [0] = 1 :: (chainB y.1.data.toList ++ (y.2.pk ++ (pkE ys ++ [0]))) := by simp [pkE]
    rw [e1, e2, cmpL]
    rcases chainB_dif x.1 y.1 with ⟨hk, hk0⟩ | hd
    · have ec : cmpEn f x y = f x.2 y.2 := by
        unfold cmpEn
        rw [orL, if_neg (fun g => g hk0), orL, orL]
        split <;> simp_all
      rw [ec, hk]
      rcases h x (by simp) y (by simp) with ⟨hv, h0⟩ | hd
      · rw [if_neg (fun g => g h0), hv]
        rcases pkE_dif xs ys (fun a ha b hb => h a (by simp [ha]) b (by simp [hb])) with ⟨rfl, hz⟩ | hd
        · exact .inl ⟨by rw [show x = y from Prod.ext hk hv], hz⟩
        · exact .inr (((hd.pre _).pre _).cons _)
      · rw [if_pos hd.ne]
        exact .inr (((hd.app _ _).pre _).cons _)
    · have ec : cmpEn f x y = sgnB x.1 y.1 := by unfold cmpEn; rw [orL, if_pos hd.ne]
      rw [ec, if_pos hd.ne]
      exact .inr ((hd.app _ _).cons _)
theorem sgnB_self (a : ByteArray) : sgnB a a = 0 := by rcases chainB_dif a a with ⟨_, h⟩ | ⟨p, x, y, s, t, h1, h2, _, _, _, _, h⟩; exact h; rw [h1] at h2; have := List.append_cancel_left h2; simp at this; omega
theorem fbits_inj {a b : Int} (ha : 0 ≤ a) (ha' : a ≤ 18446744073709551615) (hb : 0 ≤ b) (hb' : b ≤ 18446744073709551615) (h : fbits a = fbits b) : a = b := by
  unfold fbits at h
  by_cases h1 : a < 9223372036854775808 <;> by_cases h2 : b < 9223372036854775808
  · rw [if_pos h1, if_pos h2] at h; omega
  · rw [if_pos h1, if_neg h2] at h; omega
  · rw [if_neg h1, if_pos h2] at h; omega
  · rw [if_neg h1, if_neg h2] at h; omega
theorem fbits_bound {a : Int} (ha : 0 ≤ a) (ha' : a ≤ 18446744073709551615) : 0 ≤ fbits a ∧ fbits a ≤ 18446744073709551615 := by unfold fbits; split <;> omega
theorem kind_head (k : Int) (h0 : 0 ≤ k) (h6 : k ≤ 6) : 0 ≤ k + 1 ∧ k + 1 ≤ 255 := by omega
/-- values -/
theorem pk_dif : ∀ (n : Nat) (v u : V), SizeOf.sizeOf v ≤ n → Good v → Good u → WfAll v → WfAll u → (v = u ∧ cmpD n v u = 0) ∨ Dif (cmpD n v u) v.pk u.pk
  | 0, v, u, h, _, _, _, _ => by cases v; simp at h
  | n + 1, v, u, h, gv, gu, wv, wu => by
    have ov := gv.ok
    have ou := gu.ok
    rw [pk_eq v, pk_eq u, cmpD]
    by_cases hk : v.k = u.k
    rotate_left
    · have hne : sgn v.k u.k ≠ 0 := fun e => hk (sgn_zero e)
      rw [orL, if_pos hne]
      have := Dif.head (a := v.k + 1) (b := u.k + 1) (if v.k = 1 then [v.n] else if v.k = 2 then wordB (v.n + 9223372036854775808) else if v.k = 3 then wordB (fbits v.f) else if v.k = 4 then chainB v.s.data.toList else if v.k = 5 then pkL v.l ++ [0] else if v.k = 6 then pkE v.e ++ [0] else [])
        (if u.k = 1 then [u.n] else if u.k = 2 then wordB (u.n + 9223372036854775808) else if u.k = 3 then wordB (fbits u.f) else if u.k = 4 then chainB u.s.data.toList else if u.k = 5 then pkL u.l ++ [0] else if u.k = 6 then pkE u.e ++ [0] else [])
        (by have := ov.k0; omega) (by have := ov.k6; omega) (by have := ou.k0; omega) (by have := ou.k6; omega) (by omega)
      rw [show sgn (v.k + 1) (u.k + 1) = sgn v.k u.k by
        unfold sgn
        by_cases h1 : v.k < u.k
        · rw [if_pos h1, if_pos (by omega)]
        · rw [if_neg h1, if_neg (by omega)]
          by_cases h2 : u.k < v.k
          · rw [if_pos h2, if_pos (by omega)]
          · rw [if_neg h2, if_neg (by omega)]] at this
      exact .inr this
    · have hl : (v.l = u.l ∧ cmpL (cmpD n) v.l u.l = 0) ∨ Dif (cmpL (cmpD n) v.l u.l) (pkL v.l ++ [0]) (pkL u.l ++ [0]) :=
        pkL_dif v.l u.l (fun x hx y hy => pk_dif n x y (by have := V.lt_l hx; omega) (gv.l x hx) (gu.l y hy) (wv.l x hx) (wu.l y hy))
      have he : (v.e = u.e ∧ cmpL (cmpEn (cmpD n)) v.e u.e = 0) ∨ Dif (cmpL (cmpEn (cmpD n)) v.e u.e) (pkE v.e ++ [0]) (pkE u.e ++ [0]) :=
        pkE_dif v.e u.e (fun x hx y hy => pk_dif n x.2 y.2 (by have := V.lt_e hx; omega) (gv.e x hx) (gu.e y hy) (wv.e x hx) (wu.e y hy))
      have hs := chainB_dif v.s u.s
      have hk0 : sgn v.k u.k = 0 := by rw [hk]; exact sgn_self _
      rw [orL, if_neg (fun g => g hk0)]
      have l0 : u.k ≠ 5 → v.l = u.l ∧ cmpL (cmpD n) v.l u.l = 0 := fun h5 => by rw [ov.l (by omega), ou.l h5]; exact ⟨rfl, rfl⟩
      have e0 : u.k ≠ 6 → v.e = u.e ∧ cmpL (cmpEn (cmpD n)) v.e u.e = 0 := fun h5 => by rw [ov.e (by omega), ou.e h5]; exact ⟨rfl, rfl⟩
      have s0 : u.k ≠ 4 → v.s = u.s ∧ sgnB v.s u.s = 0 := fun h5 => by rw [ov.s (by omega), ou.s h5]; exact ⟨rfl, sgnB_self _⟩
      have f0 : u.k ≠ 3 → v.f = u.f ∧ sgn (fbits v.f) (fbits u.f) = 0 := fun h5 => by rw [ov.f (by omega), ou.f h5]; exact ⟨rfl, sgn_self _⟩
      have n0 : u.k ≠ 1 → u.k ≠ 2 → v.n = u.n ∧ sgn v.n u.n = 0 := fun h1 h2 => by rw [ov.n (by omega) (by omega), ou.n h1 h2]; exact ⟨rfl, sgn_self _⟩
      have wv0 := wv.own
      have wu0 := wu.own
      rw [hk]
      have h6 : u.k = 0 ∨ u.k = 1 ∨ u.k = 2 ∨ u.k = 3 ∨ u.k = 4 ∨ u.k = 5 ∨ u.k = 6 := by have := ou.k0; have := ou.k6; omega
      have z : ∀ (x : Int) (xs : List Int), x = 0 → orL (x :: xs) = orL xs := fun x xs hx => by rw [orL, if_neg (fun g => g hx)]
      have p : ∀ (x : Int) (xs : List Int), x ≠ 0 → orL (x :: xs) = x := fun x xs hx => by rw [orL, if_pos hx]
      rcases h6 with h6 | h6 | h6 | h6 | h6 | h6 | h6
      · rw [z _ _ (n0 (by omega) (by omega)).2, z _ _ (f0 (by omega)).2, z _ _ (s0 (by omega)).2, z _ _ (l0 (by omega)).2, z _ _ (e0 (by omega)).2]
        exact .inl ⟨V.ext' hk (n0 (by omega) (by omega)).1 (f0 (by omega)).1 (s0 (by omega)).1 (l0 (by omega)).1 (e0 (by omega)).1, rfl⟩
      · by_cases hn : v.n = u.n
        · rw [z _ _ (by rw [hn]; exact sgn_self _), z _ _ (f0 (by omega)).2, z _ _ (s0 (by omega)).2, z _ _ (l0 (by omega)).2, z _ _ (e0 (by omega)).2]
          exact .inl ⟨V.ext' hk hn (f0 (by omega)).1 (s0 (by omega)).1 (l0 (by omega)).1 (e0 (by omega)).1, rfl⟩
        · rw [p _ _ (fun e => hn (sgn_zero e))]
          simp only [eq_true h6, if_true]
          have a1 := ov.n1 (by omega)
          have a2 := ou.n1 h6
          exact .inr ((Dif.head [] [] (by omega) (by omega) (by omega) (by omega) hn).cons _)
      · simp only [eq_false (show ¬ u.k = 1 by omega), eq_true h6, if_true, if_false]
        by_cases hn : v.n = u.n
        · rw [z _ _ (by rw [hn]; exact sgn_self _), z _ _ (f0 (by omega)).2, z _ _ (s0 (by omega)).2, z _ _ (l0 (by omega)).2, z _ _ (e0 (by omega)).2]
          exact .inl ⟨V.ext' hk hn (f0 (by omega)).1 (s0 (by omega)).1 (l0 (by omega)).1 (e0 (by omega)).1, rfl⟩
        · rw [p _ _ (fun e => hn (sgn_zero e))]
          have a1 := wv0.n0; have a2 := wv0.n1; have a3 := wu0.n0; have a4 := wu0.n1
          have := wordB_dif (n := v.n + 9223372036854775808) (m := u.n + 9223372036854775808) (by omega) (by omega) (by omega) (by omega) (by omega)
          rw [show sgn (v.n + 9223372036854775808) (u.n + 9223372036854775808) = sgn v.n u.n by
            unfold sgn
            by_cases h1 : v.n < u.n
            · rw [if_pos h1, if_pos (by omega)]
            · rw [if_neg h1, if_neg (by omega)]
              by_cases h2 : u.n < v.n
              · rw [if_pos h2, if_pos (by omega)]
              · rw [if_neg h2, if_neg (by omega)]] at this
          exact .inr (this.cons _)
      · simp only [eq_false (show ¬ u.k = 1 by omega), eq_false (show ¬ u.k = 2 by omega), eq_true h6, if_true, if_false]
        rw [z _ _ (n0 (by omega) (by omega)).2]
        have a1 := fbits_bound wv0.f0 wv0.f1
        have a2 := fbits_bound wu0.f0 wu0.f1
        by_cases hf : fbits v.f = fbits u.f
        · rw [z _ _ (by rw [hf]; exact sgn_self _), z _ _ (s0 (by omega)).2, z _ _ (l0 (by omega)).2, z _ _ (e0 (by omega)).2]
          exact .inl ⟨V.ext' hk (n0 (by omega) (by omega)).1 (fbits_inj wv0.f0 wv0.f1 wu0.f0 wu0.f1 hf) (s0 (by omega)).1 (l0 (by omega)).1 (e0 (by omega)).1, rfl⟩
        · rw [p _ _ (fun e => hf (sgn_zero e))]
          exact .inr ((wordB_dif a1.1 a1.2 a2.1 a2.2 hf).cons _)
      · simp only [eq_false (show ¬ u.k = 1 by omega), eq_false (show ¬ u.k = 2 by omega), eq_false (show ¬ u.k = 3 by omega), eq_true h6, if_true, if_false]
        rw [z _ _ (n0 (by omega) (by omega)).2, z _ _ (f0 (by omega)).2]
        rcases hs with ⟨hs1, hs2⟩ | hs
        · rw [z _ _ hs2, z _ _ (l0 (by omega)).2, z _ _ (e0 (by omega)).2]
          exact .inl ⟨V.ext' hk (n0 (by omega) (by omega)).1 (f0 (by omega)).1 hs1 (l0 (by omega)).1 (e0 (by omega)).1, rfl⟩
        · rw [p _ _ hs.ne]
          exact .inr (hs.cons _)
      · simp only [eq_false (show ¬ u.k = 1 by omega), eq_false (show ¬ u.k = 2 by omega), eq_false (show ¬ u.k = 3 by omega), eq_false (show ¬ u.k = 4 by omega), eq_true h6, if_true, if_false]
        rw [z _ _ (n0 (by omega) (by omega)).2, z _ _ (f0 (by omega)).2, z _ _ (s0 (by omega)).2]
        rcases hl with ⟨hs1, hs2⟩ | hs
        · rw [z _ _ hs2, z _ _ (e0 (by omega)).2]
          exact .inl ⟨V.ext' hk (n0 (by omega) (by omega)).1 (f0 (by omega)).1 (s0 (by omega)).1 hs1 (e0 (by omega)).1, rfl⟩
        · rw [p _ _ hs.ne]
          exact .inr (hs.cons _)
      · simp only [eq_false (show ¬ u.k = 1 by omega), eq_false (show ¬ u.k = 2 by omega), eq_false (show ¬ u.k = 3 by omega), eq_false (show ¬ u.k = 4 by omega), eq_false (show ¬ u.k = 5 by omega), eq_true h6, if_true, if_false]
        rw [z _ _ (n0 (by omega) (by omega)).2, z _ _ (f0 (by omega)).2, z _ _ (s0 (by omega)).2, z _ _ (l0 (by omega)).2]
        rcases he with ⟨hs1, hs2⟩ | hs
        · rw [z _ _ hs2]
          exact .inl ⟨V.ext' hk (n0 (by omega) (by omega)).1 (f0 (by omega)).1 (s0 (by omega)).1 (l0 (by omega)).1 hs1, rfl⟩
        · rw [p _ _ hs.ne]
          exact .inr (hs.cons _)
end Go.Proofs.YtmpaaedccodjaaaDoor
