/-
  The contract of tok.Cut. Condition: a variable of the library's holds some integer.
-/
import Derived.Test.YtfjeikijmconoaaTok3
namespace Go.Proofs.Ytfjeikijmconoaa
open Go.RowKit Gx

abbrev Tok := Int × Nat × Nat
def tokCells (l : List Tok) : List Value := l.flatMap fun t => [.int .i64 t.1, .int .i64 t.2.1, .int .i64 t.2.2]
theorem tokCells_snoc (l : List Tok) (t : Tok) : tokCells (l ++ [t]) = tokCells l ++ [.int .i64 t.1, .int .i64 t.2.1, .int .i64 t.2.2] := by simp [tokCells]
theorem tokCells_len (l : List Tok) : (tokCells l).length = l.length * 3 := by
  induction l with
  | nil => rfl
  | cons t l ih => simp [tokCells] at ih ⊢; omega

theorem index_fits (l sub : List UInt8) (h : 0 ≤ Lib.index l sub) : Lib.index l sub + sub.length ≤ l.length := by
  induction l with
  | nil =>
    unfold Lib.index at h ⊢
    split at h
    · rename_i h1
      have : sub = [] := by simpa using h1
      subst this; simp
    · omega
  | cons b l ih =>
    rw [index_cons] at h ⊢
    by_cases h1 : sub.isPrefixOf (b :: l) = true
    · rw [if_pos h1]
      have := (List.isPrefixOf_iff_prefix.1 h1).length_le
      omega
    · rw [if_neg h1] at h ⊢
      by_cases h2 : Lib.index l sub = -1
      · rw [h2] at h; simp at h
      · have h3 : (Lib.index l sub == -1) = false := by simpa using h2
        rw [h3] at h ⊢
        simp only [Bool.false_eq_true, ↓reduceIte] at h ⊢
        have := Lib.index_ge l sub
        have := ih (by omega)
        simp only [List.length_cons]; omega
theorem noteLen_le (l : List UInt8) : noteLen l ≤ l.length := by
  unfold noteLen
  split
  · exact cut_len _ _
  · split
    · rename_i hp
      have h2 : 2 ≤ l.length := by
        have := (List.isPrefixOf_iff_prefix.1 (show ([47, 42] : List UInt8).isPrefixOf l = true from hp)).length_le
        simpa using this
      split
      · omega
      · have := index_fits (l.drop 2) [42, 47] (by omega)
        simp at this; omega
    · omega
theorem textScan_le : ∀ (l : List UInt8) (p : Bool) (i : Nat), textScan l p i ≤ i + l.length
  | [], _, _ => by simp [textScan]
  | b :: r, p, i => by
    unfold textScan
    have h1 := textScan_le r false (i + 1)
    have h2 := textScan_le r (b == 92) (i + 1)
    simp only [List.length_cons]
    split
    · omega
    · split
      · omega
      · split <;> omega
theorem textLen_le (l : List UInt8) (h : 0 < l.length) : textLen l ≤ l.length := by
  unfold textLen
  have := textScan_le (l.drop 1) false 1
  rw [List.length_drop] at this; omega
theorem runLen_le (k : Int) (l : List UInt8) : runLen k l ≤ l.length := by
  unfold runLen
  exact (List.takeWhile_sublist _).length_le
theorem nextTok_fits (l : List UInt8) (h : 0 < l.length) : 1 ≤ (nextTok l).2 ∧ (nextTok l).2 ≤ l.length := by
  cases l with
  | nil => simp at h
  | cons b r =>
    have h1 := runLen_le (classOf (b.toNat : Int)) r
    have h2 := noteLen_le (b :: r)
    have h3 := textLen_le (b :: r) h
    unfold nextTok
    simp only [List.length_cons] at *
    split
    · exact ⟨by simp only []; omega, by simp only []; omega⟩
    · split
      · split <;> exact ⟨by simp only []; omega, by simp only []; omega⟩
      · split
        · split <;> exact ⟨by simp only []; omega, by simp only []; omega⟩
        · exact ⟨by simp only []; omega, by simp only []; omega⟩

/-- the tokens from a place on -/
def toksF : Nat → List UInt8 → Nat → List Tok
  | 0, _, _ => []
  | f + 1, l, at_ => if l.length ≤ at_ then [] else ((nextTok (l.drop at_)).1, at_, at_ + (nextTok (l.drop at_)).2) :: toksF f l (at_ + (nextTok (l.drop at_)).2)
theorem toksF_fuel : ∀ (f g : Nat) (l : List UInt8) (at_ : Nat), l.length ≤ at_ + f → l.length ≤ at_ + g → toksF f l at_ = toksF g l at_
  | 0, 0, _, _, _, _ => rfl
  | 0, g + 1, l, at_, h, _ => by simp [toksF]; omega
  | f + 1, 0, l, at_, _, h => by simp [toksF]; omega
  | f + 1, g + 1, l, at_, h1, h2 => by
    unfold toksF
    by_cases h : l.length ≤ at_
    · rw [if_pos h, if_pos h]
    · have := nextTok_fits (l.drop at_) (by simp; omega)
      rw [if_neg h, if_neg h, toksF_fuel f g l _ (by omega) (by omega)]
def toksFrom (l : List UInt8) (at_ : Nat) : List Tok := toksF l.length l at_
def toks (l : List UInt8) : List Tok := toksFrom l 0
theorem toksFrom_end (l : List UInt8) (at_ : Nat) (h : l.length ≤ at_) : toksFrom l at_ = [] := by
  unfold toksFrom
  cases hl : l.length with
  | zero => rfl
  | succ n => unfold toksF; rw [if_pos h]
theorem toksFrom_step (l : List UInt8) (at_ : Nat) (h : at_ < l.length) :
    toksFrom l at_ = ((nextTok (l.drop at_)).1, at_, at_ + (nextTok (l.drop at_)).2) :: toksFrom l (at_ + (nextTok (l.drop at_)).2) := by
  have hn := nextTok_fits (l.drop at_) (by simp; omega)
  unfold toksFrom
  obtain ⟨f, hf⟩ : ∃ f, l.length = f + 1 := ⟨l.length - 1, by omega⟩
  conv => lhs; rw [hf]; unfold toksF
  rw [if_neg (by omega), toksF_fuel f l.length l _ (by omega) (by omega)]

theorem Try.info_tok : (Try.prog.info? 28).map (fun i => (i.zero, i.size, i.bytes)) = some (some (.agg #[.int .i64 0, .int .i64 0, .int .i64 0]), 3, 24) := by kernel_rfl

/-- what tok.Cut hands back: the tokens, in memory of its own; or that the text is too large -/
def CutPost (l : List UInt8) (w : World) (e : Ending) (w' : World) : Prop :=
  (l.length ≤ 20000 ∧ ∃ vo vc, e = .returned (.tuple #[.slice vo (toks l).length vc, .int .i64 0]) ∧ w'.ownsRow w.heap.size 28 3 (.slice vo (toks l).length vc) (toks l).length (tokCells (toks l)) ∧ Below w.heap.size w w') ∨
  (20000 < l.length ∧ e = .returned (.tuple #[.slice none 0 0, .int .i64 2]) ∧ w = w')

set_option maxHeartbeats 2000000 in
theorem cut_any (s : ByteArray) (w : World) (hm : MaxOk w) :
    Calls Try.prog 10 #[.string s] w (CutPost s.data.toList w) := by
  have hlen : s.data.toList.length = s.size := Array.length_toList
  by_cases hL : 20000 < s.size
  · have t : decide ((20000 : Int) < (s.size : Int)) = true := decide_eq_true (by omega)
    have HL : Hid (20000 < s.data.toList.length) := by show _ < _; omega
    clear hlen
    go_enter Try.func10, Try.ntmps10
    go_wp2
    go_ret2
    exact .inr ⟨HL.out, rfl, rfl⟩
  have HLEN := Lib.hid hlen
  have hMX := Lib.hid hm
  clear hlen hm
  go_enter Try.func10, Try.ntmps10
  go_wp2
  go_loopw [4, 5] (fun v i wr => ∃ (at_ : Nat) (out : List Tok) (vo : Option Addr) (vc : Nat), at_ ≤ s.size ∧ i = .int .i64 at_ ∧ v = .slice vo out.length vc ∧ out.length ≤ at_ ∧
      wr.ownsRow w.heap.size 28 3 (.slice vo out.length vc) out.length (tokCells out) ∧ Hid (toks s.data.toList = out ++ toksFrom s.data.toList at_) ∧ Below w.heap.size w wr)
    (fun _ i _ => s.size - (intOf i).toNat)
  case atStart => exact ⟨0, [], none, 0, Nat.zero_le _, rfl, rfl, Nat.le_refl _, World.ownsRow_nil _ _ _ _, rfl, Below.refl _ _⟩
  case round =>
    obtain ⟨at_, out, vo, vc, hat, rfl, rfl, hol, hown, htk, hb⟩ := hrel
    by_cases hlt : at_ < s.size
    · have hex : (s.extract at_ s.size).data.toList = s.data.toList.drop at_ := Lib.extract_to_end s at_
      have hexs : (s.extract at_ s.size).size = s.size - at_ := by simp
      have HN := Lib.hid (next_any (s.extract at_ s.size) wr (hMX.out.keep hb) (by omega) (by omega))
      rw [hex] at HN
      unfold NextPost at HN
      have hfit := nextTok_fits (s.data.toList.drop at_) (by rw [List.length_drop, HLEN.out]; omega)
      rw [List.length_drop, HLEN.out] at hfit
      have hst := toksFrom_step s.data.toList at_ (by rw [HLEN.out]; exact hlt)
      obtain ⟨k, hk⟩ : ∃ k, k = (nextTok (s.data.toList.drop at_)).1 := ⟨_, rfl⟩
      obtain ⟨n, hn⟩ : ∃ n, n = (nextTok (s.data.toList.drop at_)).2 := ⟨_, rfl⟩
      rw [← hk, ← hn] at HN hst
      rw [← hn] at hfit
      have hT : Hid (toks s.data.toList = (out ++ [(k, at_, at_ + n)]) ++ toksFrom s.data.toList (at_ + n)) := by
        show _ = _
        rw [htk.out, hst]; simp
      obtain ⟨hf1, hf2⟩ := hfit
      clear hst hk hn htk hex hexs
      have hsz := hb.size
      go_wp2_with fail
      refine HN.out.mono ?_
      rintro e w1 ⟨rfl, hb1⟩
      have hown1 := Gx.own_keep hown hb1
      have hb2 := hb.trans (hb1.mono hsz)
      have hsz2 := hb2.size
      clear hown hb hb1 HN hsz
      go_wp2_with (first
        | (at_builtin; refine Gx.wpList_push w1 rfl _ _ 23 rfl w.heap.size 28 (.agg #[.int .i64 0, .int .i64 0, .int .i64 0]) 3 24 Try.underlying23 Try.info_tok rfl (by decide) _ _ _ [.int .i64 k, .int .i64 at_, .int .i64 ((at_ : Int) + n)] _ rfl rfl (by exact hown1) rfl rfl ?c2 ?c3 ?c4 ?c5 ?_))
      case c2 => intro u hu; simp at hu; rcases hu with rfl | rfl | rfl <;> rfl
      case c3 => omega
      case c4 => omega
      case c5 => omega
      intro v' w' hown5 hg5 _ _
      have hb5 : Below w.heap.size w w' := hb2.grown hg5 hsz2 (fun k e => (hown1.lt k e).1)
      obtain ⟨vo5, vc5, rfl⟩ := Gx.own_form hown5
      have hl5 : (out ++ [(k, at_, at_ + n)]).length = out.length + 1 := by simp
      have hown6 : w'.ownsRow w.heap.size 28 3 (.slice vo5 (out ++ [(k, at_, at_ + n)]).length vc5) (out ++ [(k, at_, at_ + n)]).length (tokCells (out ++ [(k, at_, at_ + n)])) := by
        rw [hl5, tokCells_snoc]
        have e : ((at_ + n : Nat) : Int) = (at_ : Int) + n := by omega
        rw [e]; exact hown5
      have HL5 := Lib.hid hl5
      clear hl5 hown5 hown1 hg5 hb2
      go_wp2
      go_roundw
      case rel => exact ⟨at_ + n, out ++ [(k, at_, at_ + n)], vo5, vc5, by omega, by go_num, by rw [HL5.out], by rw [HL5.out]; omega, hown6, hT, hb5⟩
      case measure => simp [intOf]; omega
    · obtain rfl : at_ = s.size := by omega
      have hT : toks s.data.toList = out := by rw [htk.out, toksFrom_end _ _ (by rw [HLEN.out]; exact Nat.le_refl _)]; simp
      have HT := Lib.hid hT
      clear hT htk
      go_wp2
      go_ret2
      refine .inl ⟨by rw [HLEN.out]; omega, vo, vc, ?_, ?_, hb⟩
      · rw [HT.out]; rfl
      · rw [HT.out]; exact hown
end Go.Proofs.Ytfjeikijmconoaa
