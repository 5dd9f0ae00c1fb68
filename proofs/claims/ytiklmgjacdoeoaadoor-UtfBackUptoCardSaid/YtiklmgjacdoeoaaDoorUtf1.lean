/-
  The contracts of utf.Size, utf.Text and of typecasekeep.utfs. Condition: the slice has at most 2^40 runes.
-/
import Derived.Test.YtiklmgjacdoeoaaDoorRune
import Derived.Test.YtiklmgjacdoeoaaDoorRd
import Derived.WalkLawsBesides
import Derived.Deep.DeepFit
namespace Go.Proofs.YtiklmgjacdoeoaaDoor
open Go.RowKit Gx

/-- a scalar -/
def good (r : Int) : Bool := decide (0 ≤ r) && decide (r ≤ 1114111) && !(decide (55296 ≤ r) && decide (r ≤ 57343))
/-- how many bytes a rune's code has; 0: it has none -/
def runeSize (r : Int) : Int := if good r then (if r < 128 then 1 else if r < 2048 then 2 else if r < 65536 then 3 else 4) else 0

theorem good_iff (r : Int) : good r = true ↔ 0 ≤ r ∧ r ≤ 1114111 ∧ (r < 55296 ∨ 57343 < r) := by
  unfold good
  simp only [Bool.and_eq_true, Bool.not_eq_true', Bool.and_eq_false_iff, decide_eq_true_eq, decide_eq_false_iff_not]
  omega

def SizePost (r : Int) (w : World) (e : Ending) (w' : World) : Prop := e = .returned (.int .i64 (runeSize r)) ∧ w = w'

set_option maxHeartbeats 400000 in
theorem size_any (r : Int) (w : World) : Calls Tryd.prog 15 #[.int .i32 r] w (SizePost r w) := by
  by_cases h0 : r < 0
  · have e : runeSize r = 0 := by unfold runeSize; rw [if_neg (by rw [good_iff]; omega)]
    go_enter Tryd.func15, Tryd.ntmps15
    go_wp2
    go_ret
    exact ⟨by rw [e]; rfl, rfl⟩
  by_cases h1 : 1114111 < r
  · have e : runeSize r = 0 := by unfold runeSize; rw [if_neg (by rw [good_iff]; omega)]
    go_enter Tryd.func15, Tryd.ntmps15
    go_wp2
    go_ret
    exact ⟨by rw [e]; rfl, rfl⟩
  by_cases h2 : 55296 ≤ r ∧ r ≤ 57343
  · have e : runeSize r = 0 := by unfold runeSize; rw [if_neg (by rw [good_iff]; omega)]
    obtain ⟨h2, h3⟩ := h2
    go_enter Tryd.func15, Tryd.ntmps15
    go_wp2
    go_ret
    exact ⟨by rw [e]; rfl, rfl⟩
  have hg : good r = true := by rw [good_iff]; omega
  have e : runeSize r = if r < 128 then 1 else if r < 2048 then 2 else if r < 65536 then 3 else 4 := by unfold runeSize; rw [if_pos hg]
  have E := Lib.hid e
  clear e hg
  by_cases h3 : 55296 ≤ r
  · have h4 : 57343 < r := by omega
    clear h2
    by_cases h5 : r < 65536
    · have e : runeSize r = 3 := by rw [E.out, if_neg (by omega), if_neg (by omega), if_pos h5]
      go_enter Tryd.func15, Tryd.ntmps15
      go_wp2
      go_ret
      exact ⟨by rw [e]; rfl, rfl⟩
    · have e : runeSize r = 4 := by rw [E.out, if_neg (by omega), if_neg (by omega), if_neg h5]
      go_enter Tryd.func15, Tryd.ntmps15
      go_wp2
      go_ret
      exact ⟨by rw [e]; rfl, rfl⟩
  · clear h2
    by_cases h5 : r < 128
    · have e : runeSize r = 1 := by rw [E.out, if_pos h5]
      go_enter Tryd.func15, Tryd.ntmps15
      go_wp2
      go_ret
      exact ⟨by rw [e]; rfl, rfl⟩
    by_cases h6 : r < 2048
    · have e : runeSize r = 2 := by rw [E.out, if_neg h5, if_pos h6]
      go_enter Tryd.func15, Tryd.ntmps15
      go_wp2
      go_ret
      exact ⟨by rw [e]; rfl, rfl⟩
    · have e : runeSize r = 3 := by rw [E.out, if_neg h5, if_neg h6, if_pos (by omega)]
      go_enter Tryd.func15, Tryd.ntmps15
      go_wp2
      go_ret
      exact ⟨by rw [e]; rfl, rfl⟩

def TruePost (w : World) (e : Ending) (w' : World) : Prop := e = .returned (.bool true) ∧ Below w.heap.size w w'

set_option maxHeartbeats 400000 in
theorem utfs_any (w : World) : Calls Tryd.prog 7 #[] w (TruePost w) := by
  have H := Lib.hid (size_any 97 w)
  go_enter Tryd.func7, Tryd.ntmps7
  go_wp2_with fail
  refine H.out.mono ?_
  rintro e w2 ⟨rfl, rfl⟩
  have e : runeSize 97 = 1 := by decide
  rw [e]
  go_wp2
  go_ret
  exact ⟨rfl, Below.refl _ _⟩

/-- the text of runes -/
def encs (l : List Int) : List UInt8 := l.flatMap Lib.encodeRune
def textOf (l : List Int) : List UInt8 := if l.all good then encs l else []
def textErr (l : List Int) : Int := if l.all good then 0 else 3

def UtfTextPost (l : List Int) (w : World) (e : Ending) (w' : World) : Prop :=
  e = .returned (.tuple #[.string ⟨(textOf l).toArray⟩, .int .i64 (textErr l)]) ∧ Below w.heap.size w w'

theorem encs_le (l : List Int) : (encs l).length ≤ 4 * l.length := by
  induction l with
  | nil => simp [encs]
  | cons r l ih =>
    have h4 := Lib.runeCells_le r
    rw [Lib.runeCells_length] at h4
    simp only [encs, List.flatMap_cons, List.length_append, List.length_cons] at ih ⊢
    omega
theorem encs_take_succ (l : List Int) (k : Nat) (h : k < l.length) : encs (l.take (k + 1)) = encs (l.take k) ++ Lib.encodeRune (l.getD k 0) := by
  unfold encs
  rw [List.take_succ_eq_append_getElem h, List.flatMap_append]
  congr 1
  simp [List.getD, List.getElem?_eq_getElem h]

set_option maxHeartbeats 1000000 in
theorem utfText_any (ad : Option Addr) (ca : Nat) (l : List Int) (w : World) (h : Rd .i32 w ad ca l) (hl : l.length ≤ 1099511627776) :
    Calls Tryd.prog 14 #[.slice ad l.length ca] w (UtfTextPost l w) := by
  have hwf : ∀ k, k < l.length → -2147483648 ≤ l.getD k 0 ∧ l.getD k 0 ≤ 2147483647 := by
    intro k hk
    have := h.wf _ (List.getElem_mem hk)
    simp [Lit.wf, IntKind.min, IntKind.max, IntKind.signed, IntKind.bits] at this
    simp [List.getD, List.getElem?_eq_getElem hk]
    omega
  have H := Lib.hid h
  have HWF := Lib.hid hwf
  clear h hwf
  go_enter Tryd.func14, Tryd.ntmps14
  go_wp2
  go_loopw [9] (fun i wr => ∃ k : Nat, k ≤ l.length ∧ i = .int .i64 k ∧ Hid (Lib.IsBuilderF 44 5 w.heap.size w.heap.size (Lib.byteCells (encs (l.take k))) wr) ∧ Hid ((l.take k).all good = true) ∧ Below w.heap.size w wr)
    (fun i _ => l.length - (intOf i).toNat)
  case atStart =>
    exact ⟨0, Nat.zero_le _, rfl, Lib.IsBuilderF.of (Lib.fresh_isBuilder 44 5 w), rfl, (Below.refl _ w).alloc (Nat.le_refl _) _⟩
  case round =>
    obtain ⟨k, hk, rfl, hI, hgd, hb1⟩ := hrel
    have hsz := hb1.size
    by_cases hlt : k < l.length
    · obtain ⟨b1, o1, rfl, -, hc⟩ := (H.out.keep hb1).addr (by omega)
      have hx := hc k hlt
      obtain ⟨r0, r1⟩ := HWF.out k hlt
      have hen := encs_take_succ l k hlt
      have hgs : (l.take (k + 1)).all good = ((l.take k).all good && good (l.getD k 0)) := by
        rw [List.take_succ_eq_append_getElem hlt, List.all_append]
        congr 1
        simp [List.getD, List.getElem?_eq_getElem hlt]
      have hall : good (l.getD k 0) = false → l.all good = false := by
        intro hf
        cases ha : l.all good with
        | false => rfl
        | true =>
          have := List.all_eq_true.1 ha _ (List.getElem_mem hlt)
          simp [List.getD, List.getElem?_eq_getElem hlt, this] at hf
      obtain ⟨r, er⟩ : ∃ r, r = l.getD k 0 := ⟨_, rfl⟩
      rw [← er] at hx r0 r1 hen hgs hall
      have HEN := Lib.hid hen
      have HGS := Lib.hid hgs
      have HALL := Lib.hid hall
      clear hc hen hgs hall er
      have hlen : (Lib.byteCells (encs (l.take k))).length + 4 ≤ 140737488355328 := by
        rw [Lib.byteCells_length]
        have := encs_le (l.take k)
        rw [List.length_take] at this
        omega
      have HS := Lib.hid (size_any r wr)
      unfold SizePost at HS
      have HW := Lib.hid (YtiklmgjacdoeoaaDoor.writeRune w.heap.size w.heap.size _ r r0 r1 wr hI.out hlen hsz)
      clear hlen
      cases hg : good r with
      | true =>
        have hs : runeSize r ≠ 0 := by unfold runeSize; rw [if_pos hg]; split <;> (try split) <;> (try split) <;> decide
        have hb : (runeSize r == 0) = false := by simpa using hs
        obtain ⟨z, hz⟩ : ∃ z, z = runeSize r := ⟨_, rfl⟩
        rw [← hz] at hb HS
        clear hz hs
        have hn : Hid (encs (l.take (k + 1)) = encs (l.take k) ++ Lib.encodeRune r) := HEN.out
        have hn2 : Hid ((l.take (k + 1)).all good = true) := by show _ = _; rw [HGS.out, hgd.out, hg]; rfl
        go_wp2_with fail
        refine HS.out.mono ?_
        rintro e w2 ⟨rfl, rfl⟩
        go_wp2_with fail
        refine HW.out.mono ?_
        rintro e w2 ⟨rfl, h1, bl, -⟩
        have hI2 : Hid (Lib.IsBuilderF 44 5 w.heap.size w.heap.size (Lib.byteCells (encs (l.take (k + 1)))) w2) := by
          show Lib.IsBuilderF _ _ _ _ _ _
          rw [hn.out, Lib.byteCells_append, Lib.byteCells_encodeRune]; exact Or.inr h1
        have hb2 : Below w.heap.size w w2 := hb1.trans bl
        clear h1 bl hb1
        go_wp2
        go_roundw
        case rel => exact ⟨k + 1, by omega, by go_num, hI2, hn2, hb2⟩
        case measure => simp [intOf]; omega
      | false =>
        have hs : runeSize r = 0 := by unfold runeSize; rw [hg]; rfl
        rw [hs] at HS
        clear hs
        have hne := HALL.out hg
        have HNE := Lib.hid hne
        clear hne
        go_wp2_with fail
        refine HS.out.mono ?_
        rintro e w2 ⟨rfl, rfl⟩
        go_wp2
        go_ret2
        exact ⟨by unfold textOf textErr; rw [HNE.out]; rfl, hb1⟩
    · obtain rfl : k = l.length := by omega
      have hI2 := hI.out
      have hg2 := hgd.out
      rw [List.take_of_length_le (Nat.le_refl _)] at hI2 hg2
      have HG := Lib.hid hg2
      have HB := Lib.hid (YtiklmgjacdoeoaaDoor.built w.heap.size w.heap.size (encs l) wr hI2 hsz)
      clear hI2 hg2
      go_wp2_with fail
      refine HB.out.mono ?_
      rintro e w2 ⟨rfl, -, bl⟩
      have hb2 : Below w.heap.size w w2 := hb1.trans bl
      clear bl
      go_wp2
      go_ret2
      exact ⟨by unfold textOf textErr; rw [HG.out]; rfl, hb2⟩
end Go.Proofs.YtiklmgjacdoeoaaDoor
