/-
  The walk of typecasekeep.TokTile. Condition: a variable of the library's holds some integer.
-/
import Derived.Test.YtfjeikijmconoaaTok4
namespace Go.Proofs.Ytfjeikijmconoaa
open Go.RowKit Gx

def TruePost (w : World) (e : Ending) (w' : World) : Prop := e = .returned (.bool true) ∧ Below w.heap.size w w'

theorem toks_a : toks [97] = [(4, 0, 1)] := by decide

set_option maxHeartbeats 400000 in
theorem toks_any (w : World) (hm : MaxOk w) : Calls Try.prog 9 #[] w (TruePost w) := by
  have HC := Lib.hid (cut_any ⟨#[97]⟩ w hm)
  unfold CutPost at HC
  rw [show (⟨#[97]⟩ : ByteArray).data.toList = [97] from rfl, toks_a] at HC
  clear hm
  go_enter Try.func9, Try.ntmps9
  go_wp2_with fail
  refine HC.out.mono ?_
  rintro e w' (⟨-, vo, vc, rfl, -, hb⟩ | ⟨h, -⟩)
  · go_wp2
    go_ret
    exact ⟨rfl, hb⟩
  · simp at h

theorem tokCells_get (l : List Tok) (i : Nat) (h : i < l.length) :
    (tokCells l)[i * 3]? = some (.int .i64 l[i].1) ∧ (tokCells l)[i * 3 + 1]? = some (.int .i64 l[i].2.1) ∧ (tokCells l)[i * 3 + 2]? = some (.int .i64 l[i].2.2) := by
  induction l generalizing i with
  | nil => simp at h
  | cons t l ih =>
    cases i with
    | zero => exact ⟨rfl, rfl, rfl⟩
    | succ i =>
      have h1 := ih i (by simpa using h)
      have e : tokCells (t :: l) = [.int .i64 t.1, .int .i64 t.2.1, .int .i64 t.2.2] ++ tokCells l := rfl
      have hl : ([.int .i64 t.1, .int .i64 t.2.1, .int .i64 t.2.2] : List Value).length = 3 := rfl
      rw [e]
      refine ⟨?_, ?_, ?_⟩
      · rw [List.getElem?_append_right (by rw [hl]; omega), hl, show (i + 1) * 3 - 3 = i * 3 by omega]; exact h1.1
      · rw [List.getElem?_append_right (by rw [hl]; omega), hl, show (i + 1) * 3 + 1 - 3 = i * 3 + 1 by omega]; exact h1.2.1
      · rw [List.getElem?_append_right (by rw [hl]; omega), hl, show (i + 1) * 3 + 2 - 3 = i * 3 + 2 by omega]; exact h1.2.2

theorem class_rng (c : Int) : 1 ≤ classOf c ∧ classOf c ≤ 7 := by
  unfold classOf
  repeat' split
  all_goals omega
theorem nextTok_kind (l : List UInt8) (h : 0 < l.length) : 1 ≤ (nextTok l).1 ∧ (nextTok l).1 ≤ 7 := by
  cases l with
  | nil => simp at h
  | cons b r =>
    have h1 := class_rng (b.toNat : Int)
    unfold nextTok
    simp only []
    repeat' split
    all_goals (simp only []; omega)
/-- behind a token of blanks, or a word, none of that kind begins -/
theorem nextTok_adj (l : List UInt8) (a : Nat) (ha : a < l.length) (hb : a + (nextTok (l.drop a)).2 < l.length) (hk : (nextTok (l.drop a)).1 = 1 ∨ (nextTok (l.drop a)).1 = 4) :
    (nextTok (l.drop (a + (nextTok (l.drop a)).2))).1 ≠ (nextTok (l.drop a)).1 := by
  obtain ⟨b, r, hd⟩ : ∃ b r, l.drop a = b :: r := ⟨_, _, drop_cons l a ha⟩
  have hrun : nextTok (l.drop a) = (classOf (b.toNat : Int), 1 + runLen (classOf (b.toNat : Int)) r) := by
    rw [hd] at hk ⊢
    unfold nextTok at hk ⊢
    simp only [] at hk ⊢
    by_cases h1 : classOf (b.toNat : Int) = 1 ∨ classOf (b.toNat : Int) = 4
    · rw [if_pos h1]
    · exfalso
      rw [if_neg h1] at hk
      by_cases h3 : classOf (b.toNat : Int) = 3
      · rw [if_pos h3] at hk
        split at hk <;> simp only [] at hk <;> omega
      · rw [if_neg h3] at hk
        by_cases h5 : classOf (b.toNat : Int) = 5
        · rw [if_pos h5] at hk
          split at hk <;> simp only [] at hk <;> omega
        · rw [if_neg h5] at hk
          exact h1 hk
  rw [hrun] at hk hb ⊢
  simp only [] at hk hb ⊢
  generalize classOf (b.toNat : Int) = K at *
  have hdd : l.drop (a + (1 + runLen K r)) = r.drop (runLen K r) := by
    rw [← List.drop_drop, hd, Nat.add_comm 1, List.drop_succ_cons]
  rw [hdd]
  have hlr : runLen K r < r.length := by
    have h1 : (l.drop a).length = l.length - a := List.length_drop
    rw [hd] at h1
    simp only [List.length_cons] at h1
    omega
  have hnot : ∀ (r : List UInt8), runLen K r < r.length → ∃ c q, r.drop (runLen K r) = c :: q ∧ classOf (c.toNat : Int) ≠ K := by
    intro r
    induction r with
    | nil => intro h; simp at h
    | cons c r ih =>
      intro h
      rw [runLen_cons] at h ⊢
      by_cases hc : classOf (c.toNat : Int) = K
      · rw [if_pos hc] at h ⊢
        obtain ⟨d, q, h1, h2⟩ := ih (by simp at h; omega)
        exact ⟨d, q, by rw [Nat.add_comm, List.drop_succ_cons]; exact h1, h2⟩
      · rw [if_neg hc]
        exact ⟨c, r, rfl, hc⟩
  obtain ⟨c, q, h1, h2⟩ := hnot r hlr
  rw [h1]
  unfold nextTok
  simp only []
  by_cases g1 : classOf (c.toNat : Int) = 1 ∨ classOf (c.toNat : Int) = 4
  · rw [if_pos g1]; exact h2
  · rw [if_neg g1]
    by_cases g3 : classOf (c.toNat : Int) = 3
    · rw [if_pos g3]; split <;> simp only [] <;> omega
    · rw [if_neg g3]
      by_cases g5 : classOf (c.toNat : Int) = 5
      · rw [if_pos g5]; split <;> simp only [] <;> omega
      · rw [if_neg g5]; exact h2

theorem toksF_len : ∀ (f : Nat) (l : List UInt8) (a : Nat), (toksF f l a).length ≤ f
  | 0, _, _ => by simp [toksF]
  | f + 1, l, a => by
    unfold toksF
    split
    · simp
    · have := toksF_len f l (a + (nextTok (l.drop a)).2)
      simp; omega

/-- what is known of token k, of n -/
theorem tok_at (l : List UInt8) (k at_ : Nat) (h : toks l = (toks l).take k ++ toksFrom l at_) (hk : k < (toks l).length) :
    ∃ (hat : at_ < l.length), (toks l)[k] = ((nextTok (l.drop at_)).1, at_, at_ + (nextTok (l.drop at_)).2) ∧ toks l = (toks l).take (k + 1) ++ toksFrom l (at_ + (nextTok (l.drop at_)).2) := by
  have hl : ((toks l).take k).length = k := by simp; omega
  have hat : at_ < l.length := by
    rcases Nat.lt_or_ge at_ l.length with h1 | h1
    · exact h1
    · exfalso
      rw [toksFrom_end l at_ h1, List.append_nil] at h
      have := congrArg List.length h
      rw [hl] at this
      omega
  have hst := toksFrom_step l at_ hat
  rw [hst] at h
  have hget : (toks l)[k]? = some ((nextTok (l.drop at_)).1, at_, at_ + (nextTok (l.drop at_)).2) := by
    conv => lhs; rw [h]
    rw [List.getElem?_append_right (by omega), hl, Nat.sub_self]
    rfl
  have hgk : (toks l)[k] = ((nextTok (l.drop at_)).1, at_, at_ + (nextTok (l.drop at_)).2) := by
    rw [List.getElem?_eq_getElem hk] at hget
    exact Option.some.inj hget
  refine ⟨hat, hgk, ?_⟩
  rw [List.take_succ_eq_append_getElem hk, hgk, List.append_assoc]
  exact h

/-- what stands ahead of a place is of another kind, or neither blanks nor a word -/
def Apart (l : List UInt8) (k at_ : Nat) : Prop := ∀ p, 0 < k → (toks l)[k - 1]? = some p → at_ < l.length → (nextTok (l.drop at_)).1 = p.1 → p.1 ≠ 1 ∧ p.1 ≠ 4

set_option maxHeartbeats 4000000 in
theorem tokTile_in (s : ByteArray) (w : World) (hm : MaxOk w) (h0 : 0 < s.size) (hs : s.size ≤ 20000) :
    Calls Try.prog 3 #[.string s] w (TruePost w) := by
  have hlen : s.data.toList.length = s.size := Array.length_toList
  have HLEN := Lib.hid hlen
  have HM := Lib.hid hm
  clear hlen hm
  go_enter Try.func3, Try.ntmps3
  go_wp2_with fail
  refine (toks_any w HM.out).mono ?_
  rintro e w1 ⟨rfl, hb⟩
  have HB := Lib.hid hb
  clear hb
  go_wp2_with fail
  refine (cut_any s w1 (HM.out.keep HB.out)).mono ?_
  rintro e w2 (⟨-, vo, vc, rfl, hown, hb⟩ | ⟨h, -⟩)
  rotate_left
  · exfalso; rw [HLEN.out] at h; omega
  have HB2 := Lib.hid (HB.out.trans (hb.mono HB.out.size))
  obtain ⟨n, hn⟩ : ∃ n, n = (toks s.data.toList).length := ⟨_, rfl⟩
  rw [← hn] at hown ⊢
  have HN := Lib.hid hn
  have hn0 : 0 < n := by
    rw [hn]
    have h1 := toksFrom_step s.data.toList 0 (by rw [HLEN.out]; exact h0)
    unfold toks
    rw [h1]; simp
  have hnl : n ≤ 20000 := by
    rw [hn]
    have h1 := toksF_len s.data.toList.length s.data.toList 0
    have h2 := HLEN.out
    unfold toks toksFrom
    omega
  clear hn hb HB
  obtain ⟨g, gc, he, hg, hg2⟩ : ∃ g gc, Value.slice vo n vc = .slice (some ⟨g, 0, none⟩) n gc ∧ w1.heap.size ≤ g ∧ g < w2.heap.size := by
    rcases hown.2 with ⟨h1, h2⟩ | ⟨g, cap, cur, h1, h2, h3, _⟩
    · omega
    · exact ⟨g, cap, h1, h2, (Array.getElem?_eq_some_iff.1 h3).1⟩
  obtain ⟨rfl, rfl⟩ : vo = some ⟨g, 0, none⟩ ∧ vc = gc := by simpa using he
  have HO := Lib.hid hown
  clear he hown
  go_wp2
  go_loopw [5, 27] (fun a i wr => ∃ (k at_ : Nat), k ≤ n ∧ i = .int .i64 k ∧ a = .int .i64 at_ ∧ at_ ≤ s.size ∧ Hid (toks s.data.toList = (toks s.data.toList).take k ++ toksFrom s.data.toList at_) ∧ Hid (Apart s.data.toList k at_) ∧ Below w2.heap.size w2 wr)
    (fun _ i _ => n - (intOf i).toNat)
  case atStart => exact ⟨0, 0, Nat.zero_le _, rfl, rfl, Nat.zero_le _, rfl, fun p h => by omega, Below.refl _ _⟩
  case round =>
    obtain ⟨k, at_, hk, rfl, rfl, hat, htk, hap, hb⟩ := hrel
    by_cases hlt : k < n
    · have hkn : k < (toks s.data.toList).length := by have := HN.out; omega
      obtain ⟨hat2, hgk, hnx⟩ := tok_at _ _ _ htk.out hkn
      have hcells := tokCells_get (toks s.data.toList) k hkn
      rw [hgk] at hcells
      have hfit := nextTok_fits (s.data.toList.drop at_) (by rw [List.length_drop]; omega)
      have hkind := nextTok_kind (s.data.toList.drop at_) (by rw [List.length_drop]; omega)
      rw [List.length_drop, HLEN.out] at hfit
      have hadj := nextTok_adj s.data.toList at_ hat2
      have hcw : ∀ j v, (tokCells (toks s.data.toList))[j]? = some v → j < n * 3 → wr.cell? ⟨g, j, none⟩ = some v := by
        intro j v hv hj
        rw [hb.cell (p := ⟨g, j, none⟩) hg2, HO.out.cellAt j hj]; exact hv
      have hprev : 0 < k → ∃ p : Int, wr.cell? ⟨g, (k - 1) * 3, none⟩ = some (.int .i64 p) ∧ ((nextTok (s.data.toList.drop at_)).1 = p → p ≠ 1 ∧ p ≠ 4) := by
        intro hk0
        have h1 : k - 1 < (toks s.data.toList).length := by omega
        have h2 := (tokCells_get (toks s.data.toList) (k - 1) h1).1
        exact ⟨_, hcw _ _ h2 (by omega), fun h => hap.out _ hk0 (List.getElem?_eq_getElem h1) hat2 h⟩
      have hc0 := hcw _ _ hcells.1 (by omega)
      have hc1 := hcw _ _ hcells.2.1 (by omega)
      have hc2 := hcw _ _ hcells.2.2 (by omega)
      obtain ⟨K, hK⟩ : ∃ K, K = (nextTok (s.data.toList.drop at_)).1 := ⟨_, rfl⟩
      obtain ⟨m, hM⟩ : ∃ m, m = (nextTok (s.data.toList.drop at_)).2 := ⟨_, rfl⟩
      rw [← hK] at hc0 hkind
      simp only [← hK] at hprev
      rw [← hM] at hfit hnx
      simp only [← hM] at hc2
      have hap2 : Hid (Apart s.data.toList (k + 1) (at_ + m)) := by
        intro p _ hp hal hpk
        rw [Nat.add_sub_cancel, List.getElem?_eq_getElem hkn, hgk] at hp
        obtain rfl := Option.some.inj hp
        simp only [← hM] at hadj
        simp only [] at hpk ⊢
        by_cases hq : (nextTok (s.data.toList.drop at_)).1 = 1 ∨ (nextTok (s.data.toList.drop at_)).1 = 4
        · exact absurd hpk (hadj hal hq)
        · exact ⟨fun h => hq (.inl h), fun h => hq (.inr h)⟩
      have HNX := Lib.hid hnx
      obtain ⟨hf1, hf2⟩ := hfit
      obtain ⟨hk1, hk2⟩ := hkind
      have e2 : ((at_ + m : Nat) : Int) = (at_ : Int) + m := by omega
      rw [e2] at hc2
      clear hcells hadj hcw hgk hkn hnx htk hap hK hM hat2 e2
      have t1 : ((at_ : Int) != (at_ : Int)) = false := by simp
      have t2 : decide ((at_ : Int) + m ≤ at_) = false := decide_eq_false (by omega)
      have t3 : decide ((s.size : Int) < (at_ : Int) + m) = false := decide_eq_false (by omega)
      have t4 : decide (K < 1) = false := decide_eq_false (by omega)
      have t5 : decide (7 < K) = false := decide_eq_false (by omega)
      have hbs := hb.size
      have hbn : Below w2.heap.size w2 (wr.alloc (.cells #[.int .i64 K, .int .i64 at_, .int .i64 ((at_ : Int) + m)] 28)) := hb.alloc hbs _
      have HBN := Lib.hid hbn
      clear hbn
      by_cases hk0 : k = 0
      · subst hk0
        clear hprev
        go_wp2
        go_quiet (fail)
        go_wp2
        go_roundw
        case rel => exact ⟨0 + 1, at_ + m, by omega, by go_num, by go_num, by omega, HNX.out, hap2, HBN.out.trans (Gx.drewN_below _ _ _)⟩
        case measure => simp [intOf]; omega
      · obtain ⟨p, hcp, hpp⟩ := hprev (by omega)
        have hgs : g < wr.heap.size := by omega
        have hcp' : (wr.alloc (.cells #[.int .i64 K, .int .i64 at_, .int .i64 ((at_ : Int) + m)] 28)).cell? ⟨g, (k - 1) * 3, none⟩ = some (.int .i64 p) := by
          rw [World.cell?_alloc_lt _ _ _ hgs]; exact hcp
        have hd : decide ((0 : Int) < (k : Int)) = true := decide_eq_true (by omega)
        have hd2 : decide (0 < k) = true := decide_eq_true (by omega)
        have hi0 : (0 : Int) ≤ (k : Int) - 1 := by omega
        have hi1 : (k : Int) - 1 < (n : Int) := by omega
        have hi3 : ((k : Int) - 1).toNat = k - 1 := by omega
        have hi4 : IntKind.i64.wrap ((k : Int) - 1) = (k : Int) - 1 := IntWalk.i64_in _ (by omega)
        by_cases hKp : K = p
        · subst hKp
          obtain ⟨q1, q2⟩ := hpp rfl
          have u1 : (K == K) = true := by simp
          have u2 : (K == 1) = false := by simpa using q1
          have u3 : (K == 4) = false := by simpa using q2
          clear hprev hpp q1 q2
          go_wp2
          go_quiet (fail)
          go_wp2
          go_roundw
          case rel => exact ⟨k + 1, at_ + m, by omega, by go_num, by go_num, by omega, HNX.out, hap2, HBN.out.trans (Gx.drewN_below _ _ _)⟩
          case measure => simp [intOf]; omega
        · have u1 : (K == p) = false := by simpa using hKp
          clear hprev hpp hKp
          go_wp2
          go_quiet (fail)
          go_wp2
          go_roundw
          case rel => exact ⟨k + 1, at_ + m, by omega, by go_num, by go_num, by omega, HNX.out, hap2, HBN.out.trans (Gx.drewN_below _ _ _)⟩
          case measure => simp [intOf]; omega
    · obtain rfl : k = n := by omega
      have hend : at_ = s.size := by
        rcases Nat.lt_or_ge at_ s.size with h1 | h1
        · exfalso
          have h2 := htk.out
          rw [toksFrom_step _ _ (by rw [HLEN.out]; exact h1)] at h2
          have h3 := congrArg List.length h2
          simp [← HN.out] at h3
        · omega
      subst hend
      have hz : ((s.size : Int) == (s.size : Int)) = true := by simp
      go_wp2
      go_ret
      exact ⟨rfl, HB2.out.trans (hb.mono HB2.out.size)⟩

set_option maxHeartbeats 1000000 in
theorem tokTile_empty (w : World) (hm : MaxOk w) :
    Calls Try.prog 3 #[.string ⟨#[]⟩] w (TruePost w) := by
  have HM := Lib.hid hm
  clear hm
  go_enter Try.func3, Try.ntmps3
  go_wp2_with fail
  refine (toks_any w HM.out).mono ?_
  rintro e w1 ⟨rfl, hb⟩
  have HB := Lib.hid hb
  clear hb
  go_wp2_with fail
  refine (cut_any ⟨#[]⟩ w1 (HM.out.keep HB.out)).mono ?_
  rintro e w2 (⟨-, vo, vc, rfl, hown, hb⟩ | ⟨h, -⟩)
  · have HB2 := Lib.hid (HB.out.trans (hb.mono HB.out.size))
    have hz : (toks (⟨#[]⟩ : ByteArray).data.toList).length = 0 := rfl
    rw [hz]
    clear hz hown hb HB
    go_wp2
    refine wp_loop_rounds 1 ?_
    rw [rounds_succ]
    go_wp2
    go_ret
    exact ⟨rfl, HB2.out⟩
  · exact absurd h (by decide)

set_option maxHeartbeats 1000000 in
theorem tokTile_large (s : ByteArray) (w : World) (hm : MaxOk w) (hs : 20000 < s.size) :
    Calls Try.prog 3 #[.string s] w (TruePost w) := by
  have hlen : s.data.toList.length = s.size := Array.length_toList
  have HLEN := Lib.hid hlen
  have HM := Lib.hid hm
  have t1 : decide ((20000 : Int) < (s.size : Int)) = true := decide_eq_true (by omega)
  clear hlen hm
  go_enter Try.func3, Try.ntmps3
  go_wp2_with fail
  refine (toks_any w HM.out).mono ?_
  rintro e w1 ⟨rfl, hb⟩
  have HB := Lib.hid hb
  clear hb
  go_wp2_with fail
  refine (cut_any s w1 (HM.out.keep HB.out)).mono ?_
  rintro e w2 (⟨h, -⟩ | ⟨-, rfl, rfl⟩)
  · exfalso; rw [HLEN.out] at h; omega
  · go_wp2
    go_ret
    exact ⟨rfl, HB.out⟩

theorem tokTile_walk (s : ByteArray) (w : World) (hm : MaxOk w) :
    Calls Try.prog 3 #[.string s] w (TruePost w) := by
  by_cases h1 : 20000 < s.size
  · exact tokTile_large s w hm h1
  by_cases h0 : s.size = 0
  · obtain ⟨⟨l⟩⟩ := s
    have : l = [] := List.eq_nil_of_length_eq_zero h0
    subst this
    exact tokTile_empty w hm
  · exact tokTile_in s w hm (by omega) (by omega)
end Go.Proofs.Ytfjeikijmconoaa
