/-
  The contracts of a feed's next and take, of size. Conditions: the feed lies in memory of the call's own.
-/
import Derived.Test.YtaibpnblnigkgaaFeedLaw
import Derived.Test.YtaibpnblnigkgaaPart
import Derived.Deep.RegionLaw
import Derived.Lib.Strings
namespace Go.Proofs.Ytaibpnblnigkgaa
open Go.RowKit Gx

/-- a feed lies at g, among the blocks from lo to hi; these parts are left -/
structure Fd (w : World) (lo hi g : Nat) (rem : List Part) : Prop where
  ex : ∃ ad cap, w.heap[g]? = some (.cells #[.slice ad rem.length cap] 96 (0, 0)) ∧ rem.length ≤ cap ∧ cap ≤ 9223372036854775807 ∧ (rem ≠ [] → ∃ r off cs, ad = some ⟨r, off, none⟩ ∧ r ≠ g ∧ lo ≤ r ∧ r < hi ∧
    w.heap[r]? = some (.cells cs 54 (0, 0)) ∧ ∀ j v, (partCells rem)[j]? = some v → cs[off + j]? = some v)
  lg : lo ≤ g ∧ g < hi
  top : hi ≤ w.heap.size

theorem Fd.keep {w w' : World} {lo hi g : Nat} {rem : List Part} {S : Nat → Prop} (h : Fd w lo hi g rem) (hc : Chg S w w') (hs : ∀ k, lo ≤ k → k < hi → ¬ S k) : Fd w' lo hi g rem := by
  obtain ⟨⟨ad, cap, h1, h2, h3, h4⟩, hl, ht⟩ := h
  refine ⟨⟨ad, cap, ?_, h2, h3, fun hne => ?_⟩, hl, Nat.le_trans ht hc.size⟩
  · rw [hc.block g (by omega) (hs g hl.1 hl.2)]; exact h1
  · obtain ⟨r, off, cs, ha, hr, hr1, hr2, hr3, hr4⟩ := h4 hne
    exact ⟨r, off, cs, ha, hr, hr1, hr2, by rw [hc.block r (by omega) (hs r hr1 hr2)]; exact hr3, hr4⟩
theorem Fd.below {w w' : World} {lo hi g : Nat} {rem : List Part} (h : Fd w lo hi g rem) (hb : Below w.heap.size w w') : Fd w' lo hi g rem :=
  h.keep (S := fun _ => False) (Chg.of_below hb) (fun _ _ _ f => f)

theorem Fd.cells {w : World} {lo hi g : Nat} {p : Part} {rem : List Part} (h : Fd w lo hi g (p :: rem)) : ∃ r off cap, w.cell? ⟨g, 0, none⟩ = some (.slice (some ⟨r, off, none⟩) (rem.length + 1) cap) ∧ rem.length + 1 ≤ cap ∧ cap ≤ 9223372036854775807 ∧ r ≠ g ∧ lo ≤ r ∧ r < hi ∧
    w.cell? ⟨r, off, none⟩ = some (.int .i64 p.1) ∧ w.cell? ⟨r, off + 1, none⟩ = some (.int .i64 p.2.1) ∧ w.cell? ⟨r, off + 2, none⟩ = some (.string (bs p.2.2)) ∧ (∀ j, w.frozen? ⟨r, j, none⟩ = false) ∧ w.frozen? ⟨g, 0, none⟩ = false := by
  obtain ⟨⟨ad, cap, h1, h2, h3, h4⟩, hl, ht⟩ := h
  obtain ⟨r, off, cs, rfl, hr, hr1, hr2, hr3, hr4⟩ := h4 (by simp)
  have e0 := hr4 0 _ rfl
  have e1 := hr4 1 _ rfl
  have e2 := hr4 2 _ rfl
  refine ⟨r, off, cap, by rw [cell_of_row w g 0 _ _ _ h1]; rfl, h2, h3, hr, hr1, hr2, ?_, ?_, ?_, fun j => frozen_of_row w r j _ _ hr3, frozen_of_row w g 0 _ _ h1⟩
  · rw [cell_of_row w r off _ _ _ hr3]; exact e0
  · rw [cell_of_row w r (off + 1) _ _ _ hr3]; exact e1
  · rw [cell_of_row w r (off + 2) _ _ _ hr3]; exact e2

theorem size_any (w : World) (p : Part) (h : okP p) (h2 : p.2.1 ≤ 90000) (h3 : p.2.2.length ≤ 90000) :
    Calls Try.prog 37 #[partVal p] w fun e w' => e = .returned (.int .i64 ((ex1 p).length : Nat)) ∧ Below w.heap.size w w' := by
  have hl := len_ex1 p h
  rw [hl]
  obtain ⟨-, h1, -, -⟩ := h
  clear hl
  obtain ⟨k, n, s⟩ := p
  simp only at h1 h2 h3 ⊢
  obtain ⟨n, rfl⟩ : ∃ m : Nat, n = m := ⟨n.toNat, by omega⟩
  unfold partVal
  have hb := (Below.refl w.heap.size w).alloc (Nat.le_refl _) (.cells #[.int .i64 k, .int .i64 (n : Int), .string (bs s)] 54)
  have HB := Lib.hid hb
  have hz := bs_size s
  have HZ := Lib.hid hz
  clear hb hz
  have hz : (bs s).size ≤ 90000 := by rw [HZ.out]; exact h3
  go_enter Try.func37, Try.ntmps37
  go_wp2
  go_ret
  exact ⟨by rw [HZ.out]; rfl, HB.out⟩

theorem next_any (w : World) (lo hi g : Nat) (rem : List Part) (h : Fd w lo hi g rem) :
    Calls Try.prog 34 #[.pointer (some ⟨g, 0, none⟩)] w fun e w' => e = .returned (partVal (headP rem)) ∧ Below w.heap.size w w' := by
  cases rem with
  | nil =>
    obtain ⟨⟨ad, cap, h1, -, -, -⟩, hl, ht⟩ := h
    have c0 : w.cell? ⟨g, 0, none⟩ = some (.slice ad 0 cap) := by rw [cell_of_row w g 0 _ _ _ h1]; rfl
    have hlt : g < w.heap.size := by omega
    clear h1
    go_enter Try.func34, Try.ntmps34
    go_wp2
    exact bodyPost_ret (v := .agg #[.int .i64 0, .int .i64 0, .string ⟨#[]⟩]) (by simp [results, Try.results34, go_sem]) rfl ⟨rfl, (Below.refl _ _).alloc (Nat.le_refl _) _⟩
  | cons p rem =>
    obtain ⟨r, off, cap, c0, hcap, hcap2, hrg, hr1, hr2, k0, k1, k2, -, -⟩ := h.cells
    have hlt : g < w.heap.size := by have := h.lg; have := h.top; omega
    have hrt : r < w.heap.size := by have := h.top; omega
    clear h
    go_enter Try.func34, Try.ntmps34
    go_wp2
    exact bodyPost_ret (v := .agg #[.int .i64 p.1, .int .i64 p.2.1, .string (bs p.2.2)]) (by simp [results, Try.results34, go_sem]) rfl ⟨rfl, (Below.refl _ _).alloc (Nat.le_refl _) _⟩

/-- what taking from a feed leaves -/
def TakePost (w : World) (lo hi g : Nat) (rem : List Part) (p : Part) (e : Ending) (w' : World) : Prop :=
  e = .returned (.agg #[.int .i64 p.1, .int .i64 p.2.1, .string (bs p.2.2)]) ∧ Fd w' lo hi g rem ∧ Chg (fun k => lo ≤ k ∧ k < hi) w w'

/-- the first part is gone -/
theorem Fd.pop {w : World} {lo hi g : Nat} {p : Part} {rem : List Part} (h : Fd w lo hi g (p :: rem)) : ∃ r off cap, (w.cell? ⟨g, 0, none⟩ = some (.slice (some ⟨r, off, none⟩) (rem.length + 1) cap) ∧ rem.length + 1 ≤ cap ∧ cap ≤ 9223372036854775807 ∧ r ≠ g ∧ lo ≤ r ∧ r < hi ∧
    w.cell? ⟨r, off, none⟩ = some (.int .i64 p.1) ∧ w.cell? ⟨r, off + 1, none⟩ = some (.int .i64 p.2.1) ∧ w.cell? ⟨r, off + 2, none⟩ = some (.string (bs p.2.2)) ∧ (∀ j, w.frozen? ⟨r, j, none⟩ = false) ∧ w.frozen? ⟨g, 0, none⟩ = false) ∧
    (∀ ad, (rem ≠ [] → ad = some ⟨r, off + 3, none⟩) → Fd (w.setCell ⟨g, 0, none⟩ (.slice ad rem.length (cap - 1))) lo hi g rem ∧ Chg (fun k => lo ≤ k ∧ k < hi) w (w.setCell ⟨g, 0, none⟩ (.slice ad rem.length (cap - 1)))) ∧
    (∀ i v q, part3 q = (part3 p).set i v → i < 3 → Fd (w.setCell ⟨r, off + i, none⟩ v) lo hi g (q :: rem) ∧ Chg (fun k => lo ≤ k ∧ k < hi) w (w.setCell ⟨r, off + i, none⟩ v)) := by
  obtain ⟨⟨ad, cap, h1, h2, h3, h4⟩, hl, ht⟩ := h
  obtain ⟨r, off, cs, rfl, hr, hr1, hr2, hr3, hr4⟩ := h4 (by simp)
  have e0 := hr4 0 _ rfl
  have e1 := hr4 1 _ rfl
  have e2 := hr4 2 _ rfl
  have hsz : ∀ a v, (w.setCell a v).heap.size = w.heap.size := fun a v => by simp [World.setCell]
  refine ⟨r, off, cap, ⟨by rw [cell_of_row w g 0 _ _ _ h1]; rfl, h2, h3, hr, hr1, hr2, ?_, ?_, ?_, fun j => frozen_of_row w r j _ _ hr3, frozen_of_row w g 0 _ _ h1⟩, ?_, ?_⟩
  · rw [cell_of_row w r off _ _ _ hr3]; exact e0
  · rw [cell_of_row w r (off + 1) _ _ _ hr3]; exact e1
  · rw [cell_of_row w r (off + 2) _ _ _ hr3]; exact e2
  · intro ad had
    simp only [List.length_cons] at h2
    refine ⟨⟨⟨ad, cap - 1, by rw [heap_setCell w g 0 _ _ _ _ h1]; rfl, by omega, by omega, fun hne => ?_⟩, hl, by rw [hsz]; exact ht⟩, (Chg.refl _ w).set (.inl hl) _⟩
    refine ⟨r, off + 3, cs, had hne, hr, hr1, hr2, by rw [heap_setCell_ne w _ r _ (fun e => hr e.symm)]; exact hr3, fun j v hj => ?_⟩
    rw [Nat.add_assoc]
    refine hr4 (3 + j) v ?_
    rw [partCells_cons, List.getElem?_append_right (by simp [part3])]
    simpa [part3] using hj
  · intro i v q hq hi3
    refine ⟨⟨⟨some ⟨r, off, none⟩, cap, ?_, h2, h3, fun _ => ⟨r, off, cs.setIfInBounds (off + i) v, rfl, hr, hr1, hr2, heap_setCell w r (off + i) _ _ _ _ hr3, fun j x hj => ?_⟩⟩, hl, by rw [hsz]; exact ht⟩, (Chg.refl _ w).set (.inl ⟨hr1, hr2⟩) _⟩
    · rw [heap_setCell_ne w _ g _ hr]; exact h1
    · have e : partCells (q :: rem) = (partCells (p :: rem)).set i v := by
        rw [partCells_cons, partCells_cons, hq, List.set_append_left _ _ (by simpa [part3] using hi3)]
      rw [e] at hj
      have hlen : (partCells (p :: rem)).length = (p :: rem).length * 3 := partCells_len _
      simp only [List.length_cons] at hlen
      by_cases hji : i = j
      · subst hji
        rw [List.getElem?_set_self (by omega)] at hj
        have hx : off + i < cs.size := by
          have hb : ∃ y, (partCells (p :: rem))[i]? = some y := ⟨_, List.getElem?_eq_getElem (by omega)⟩
          obtain ⟨y, hy⟩ := hb
          exact (Array.getElem?_eq_some_iff.1 (hr4 i y hy)).1
        rw [Array.getElem?_setIfInBounds_self_of_lt hx]
        exact hj
      · rw [List.getElem?_set_ne hji] at hj
        rw [Array.getElem?_setIfInBounds_ne (by omega)]
        exact hr4 j x hj

set_option maxHeartbeats 1000000 in
/-- the whole part is taken -/
theorem take_all (w : World) (lo hi g : Nat) (p : Part) (rem : List Part) (n : Nat) (h : Fd w lo hi g (p :: rem)) (hp : okP p) (h2 : p.2.1 ≤ 90000) (h3 : p.2.2.length ≤ 90000) (hn : n = (ex1 p).length) :
    Calls Try.prog 36 #[.pointer (some ⟨g, 0, none⟩), .int .i64 n] w (TakePost w lo hi g rem p) := by
  have hlt : g < w.heap.size := by have := h.lg; have := h.top; omega
  have htop := h.top
  obtain ⟨r, off, cap, ⟨c0, hcap, hcap2, hrg, hr1, hr2, k0, k1, k2, fr, fg⟩, hpop, -⟩ := h.pop
  have hrt : r < w.heap.size := by omega
  have HP := Lib.hid hpop
  have HZ := Lib.hid (bs_size p.2.2)
  have hlen := len_ex1 p hp
  obtain ⟨hk, h0, h4, h5⟩ := hp
  clear h hpop
  have HT := Lib.hid htop
  clear htop
  obtain ⟨k, m, s⟩ := p
  simp only at *
  obtain ⟨m, rfl⟩ : ∃ q : Nat, m = q := ⟨m.toNat, by omega⟩
  have hz : (bs s).size ≤ 90000 := by rw [HZ.out]; exact h3
  have t0 : decide (n < (bs s).size) = false := decide_eq_false (by rw [HZ.out]; omega)
  have t1 : decide (n < m) = false := decide_eq_false (by omega)
  clear hn hlen
  by_cases hc1 : cap = 1
  · obtain rfl : rem = [] := List.eq_nil_of_length_eq_zero (by omega)
    subst hc1
    have HP1 := Lib.hid (HP.out (some ⟨r, off, none⟩) (fun h => absurd rfl h))
    clear HP
    rcases hk with rfl | rfl | rfl
    all_goals
      clear h4 h5
      go_enter Try.func36, Try.ntmps36
      go_wp2
      obtain ⟨hf1, hf2⟩ := HP1.out
      refine bodyPost_ret (v := partVal (_, _, s)) (by simp [results, Try.results36, go_sem]; rfl) rfl ⟨rfl, ?_, ?_⟩
      · exact (hf1.below ((Below.refl _ _).alloc (Nat.le_refl _) _)).below ((Below.refl _ _).alloc (Nat.le_refl _) _)
      · exact (hf2.alloc _).alloc _
  · have HP1 := Lib.hid (HP.out (some ⟨r, off + 3, none⟩) (fun _ => rfl))
    clear HP
    rcases hk with rfl | rfl | rfl
    all_goals
      clear h4 h5
      go_enter Try.func36, Try.ntmps36
      go_wp2
      obtain ⟨hf1, hf2⟩ := HP1.out
      refine bodyPost_ret (v := partVal (_, _, s)) (by simp [results, Try.results36, go_sem]; rfl) rfl ⟨rfl, ?_, ?_⟩
      · exact (hf1.below ((Below.refl _ _).alloc (Nat.le_refl _) _)).below ((Below.refl _ _).alloc (Nat.le_refl _) _)
      · exact (hf2.alloc _).alloc _

set_option maxHeartbeats 1000000 in
/-- a piece of a text is taken -/
theorem take_put (w : World) (lo hi g : Nat) (s : List UInt8) (rem : List Part) (n : Nat) (h : Fd w lo hi g ((3, 0, s) :: rem)) (h3 : s.length ≤ 90000) (hn : n < s.length) :
    Calls Try.prog 36 #[.pointer (some ⟨g, 0, none⟩), .int .i64 n] w (TakePost w lo hi g ((3, 0, s.drop n) :: rem) (3, 0, s.take n)) := by
  have hlt : g < w.heap.size := by have := h.lg; have := h.top; omega
  have htop := h.top
  obtain ⟨r, off, cap, ⟨c0, hcap, hcap2, hrg, hr1, hr2, k0, k1, k2, fr, fg⟩, -, hset⟩ := h.pop
  have hrt : r < w.heap.size := by omega
  have HP := Lib.hid (hset 2 (.string (bs (s.drop n))) (3, 0, s.drop n) rfl (by decide))
  have HZ := Lib.hid (bs_size s)
  clear h hset
  have HT := Lib.hid htop
  clear htop
  simp only at *
  have hz : (bs s).size ≤ 90000 := by rw [HZ.out]; exact h3
  have hz2 : n < (bs s).size := by rw [HZ.out]; exact hn
  have HE1 : Hid ((bs s).extract n (bs s).size = bs (s.drop n)) := by
    show _ = _
    rw [bs_extract, bs_size, List.take_length]
  have HE2 : Hid ((bs s).extract 0 n = bs (s.take n)) := by
    show _ = _
    rw [bs_extract]; rfl
  clear hn
  have t0 : decide (n < (bs s).size) = true := decide_eq_true hz2
  go_enter Try.func36, Try.ntmps36
  go_wp2
  go_region
  go_wp2
  obtain ⟨hf1, hf2⟩ := HP.out
  refine bodyPost_ret (v := .agg #[.int .i64 3, .int .i64 0, .string (bs (s.take n))]) (by simp [results, Try.results36, go_sem]; exact HE2.out) rfl ?_
  rw [HE1.out, HE2.out]
  refine ⟨rfl, ?_, ?_⟩
  · exact ((hf1.below ((Below.refl _ _).alloc (Nat.le_refl _) _)).below ((Below.refl _ _).alloc (Nat.le_refl _) _)).below (Gx.drewN_below _ 1 _)
  · exact ((hf2.alloc _).alloc _).drew

set_option maxHeartbeats 1000000 in
/-- a piece of what is kept or cut is taken -/
theorem take_num (w : World) (lo hi g : Nat) (k : Int) (m : Nat) (rem : List Part) (n : Nat) (h : Fd w lo hi g ((k, (m : Int), []) :: rem)) (hk : k = 1 ∨ k = 2) (h3 : m ≤ 90000) (hn : n < m) :
    Calls Try.prog 36 #[.pointer (some ⟨g, 0, none⟩), .int .i64 n] w (TakePost w lo hi g ((k, (m : Int) - n, []) :: rem) (k, (n : Int), [])) := by
  have hlt : g < w.heap.size := by have := h.lg; have := h.top; omega
  have htop := h.top
  obtain ⟨r, off, cap, ⟨c0, hcap, hcap2, hrg, hr1, hr2, k0, k1, k2, fr, fg⟩, -, hset⟩ := h.pop
  have hrt : r < w.heap.size := by omega
  have HP := Lib.hid (hset 1 (.int .i64 ((m : Int) - n)) (k, (m : Int) - n, []) rfl (by decide))
  clear h hset
  have HT := Lib.hid htop
  clear htop
  simp only at *
  have t0 : decide (n < m) = true := decide_eq_true hn
  rcases hk with rfl | rfl
  all_goals
    go_enter Try.func36, Try.ntmps36
    go_wp2
    obtain ⟨hf1, hf2⟩ := HP.out
    refine bodyPost_ret (v := .agg #[.int .i64 _, .int .i64 n, .string (bs [])]) (by simp [results, Try.results36, go_sem]) rfl ⟨rfl, ?_, ?_⟩
    · exact (hf1.below ((Below.refl _ _).alloc (Nat.le_refl _) _)).below ((Below.refl _ _).alloc (Nat.le_refl _) _)
    · exact (hf2.alloc _).alloc _

theorem take_any (w : World) (lo hi g : Nat) (p : Part) (rem : List Part) (n : Nat) (h : Fd w lo hi g (p :: rem)) (hp : okP p) (h2 : p.2.1 ≤ 90000) (h3 : p.2.2.length ≤ 90000) (hn : n ≤ (ex1 p).length) :
    Calls Try.prog 36 #[.pointer (some ⟨g, 0, none⟩), .int .i64 n] w (TakePost w lo hi g (leftP p n ++ rem) (takeP p n)) := by
  by_cases hlt : n < (ex1 p).length
  · unfold leftP takeP
    rw [if_pos hlt, if_pos hlt]
    have hl := len_ex1 p hp
    obtain ⟨k, m, s⟩ := p
    obtain ⟨hk, h0, h4, h5⟩ := hp
    simp only at hk h0 h4 h5 h2 h3 hl ⊢
    obtain ⟨m, rfl⟩ : ∃ q : Nat, m = q := ⟨m.toNat, by omega⟩
    rcases hk with rfl | rfl | rfl
    · obtain rfl := h5 (by decide)
      simp only [List.take_nil, List.drop_nil]
      rw [if_neg (by decide), if_neg (by decide)]
      exact take_num w lo hi g 1 m rem n h (.inl rfl) (by omega) (by simp at hl; omega)
    · obtain rfl := h5 (by decide)
      simp only [List.take_nil, List.drop_nil]
      rw [if_neg (by decide), if_neg (by decide)]
      exact take_num w lo hi g 2 m rem n h (.inr rfl) (by omega) (by simp at hl; omega)
    · have h6 := h4 rfl
      obtain rfl : m = 0 := by omega
      rw [if_pos rfl, if_pos rfl]
      exact take_put w lo hi g s rem n h h3 (by have h7 := len_put (q := (3, ((0 : Nat) : Int), s)) rfl; simp only at h7; omega)
  · rw [leftP_all p n (by omega), takeP_all p n (by omega)]
    exact take_all w lo hi g p rem n h hp h2 h3 (by omega)
end Go.Proofs.Ytaibpnblnigkgaa
