/-
  The contracts of utf.Next and utf.Bad. Conditions: Go's two tables of utf8 lie in the world; the text has at most 2^62 bytes.
  The contract of val.own: what can be said of a value without its parts. Conditions: Go's two tables of utf8 lie in the world.
  What val.Check answers, plainly. No conditions.
  Good values, no deeper than so, plainly. No conditions.
  The text of a value, plainly; it tells the value. No conditions but those on leaves and keys that are named.
  What a printer's writes leave alone; the text of parts. No conditions.
  Plain law: fractions of 64 bits, without their sign, as natural numbers; the nearest one. No conditions.
  Plain facts on whole numbers as lists of words of 32 bits, the least first. No conditions.
-/
import Derived.Lib.OthersKept
import Derived.WalkLawsBesides
import Derived.Deep.DeepFit
import Derived.Outline
import Derived.Deep.DeepCutAuto
import Derived.Deep.CutBlock
import Derived.StillTailTactics
import Derived.Deep.RegionLaw
import Derived.Test.YtldhmfkojaekfaaGreatDoorShowSameAllPartC
namespace Go.Proofs.YtldhmfkojaekfaaGreatDoor
open Go.RowKit Gx

def Tabs (w : World) : Prop := Lib.Utf8Tabs 1 2 w
theorem Tabs.keep {w w' : World} (h : Tabs w) (hb : Below w.heap.size w w') : Tabs w' := Utf8Tabs_below h hb

def dec (l : List UInt8) : Nat × Nat := if l = [] then (65533, 0) else Lib.decodeL l
theorem decodeGo_dec (s : ByteArray) : Lib.decodeGo s = dec s.data.toList := by
  unfold Lib.decodeGo dec
  have h := Lib.decodeL_drop s 0
  rw [List.drop_zero] at h
  by_cases h0 : s.data.toList = []
  · rw [if_pos h0, if_pos (by rw [Lib.size_eq, h0]; rfl)]
  · rw [if_neg h0, if_neg (by rw [Lib.size_eq]; intro e; exact h0 (List.eq_nil_of_length_eq_zero e)), h]

theorem decodeL_le_len (l : List UInt8) (hne : l ≠ []) : (Lib.decodeL l).2 ≤ l.length := by
  rw [Lib.decodeL_N]
  exact Lib.decodeN_width_le _ _ _ _ _ (List.length_pos_iff.2 hne)

def NextPost (l : List UInt8) (w : World) (e : Ending) (w' : World) : Prop :=
  ∃ r : Int, e = .returned (.tuple #[.int .i32 r, .int .i64 (dec l).2]) ∧ Below w.heap.size w w'

theorem decodeL_le4 (l : List UInt8) : (Lib.decodeL l).2 ≤ 4 := by
  rw [Lib.decodeL_N]
  unfold Lib.decodeN
  repeat' split
  all_goals (simp only; omega)

set_option maxHeartbeats 400000 in
theorem next_any (s : ByteArray) (w : World) (hT : Tabs w) : Calls Tryz.prog 85 #[.string s] w (NextPost s.data.toList w) := by
  have hc := Tryz.utf8_DecodeRuneInString s w hT
  rw [decodeGo_dec] at hc
  obtain ⟨r, hr⟩ : ∃ r, r = (dec s.data.toList).1 := ⟨_, rfl⟩
  obtain ⟨n, hn⟩ : ∃ n, n = (dec s.data.toList).2 := ⟨_, rfl⟩
  rw [← hr, ← hn] at hc
  have HC := Lib.hid hc
  have HN := Lib.hid hn
  clear hc hr hn
  by_cases h1 : r = 65533
  · subst h1
    by_cases h2 : n < 2
    · go_enter Tryz.func85, Tryz.ntmps85
      go_wp2_with fail
      refine HC.out.mono ?_
      rintro e w2 ⟨rfl, hb⟩
      go_wp2
      go_ret2
      exact ⟨-1, by rw [← HN.out]; rfl, hb⟩
    · go_enter Tryz.func85, Tryz.ntmps85
      go_wp2_with fail
      refine HC.out.mono ?_
      rintro e w2 ⟨rfl, hb⟩
      go_wp2
      go_ret2
      exact ⟨_, by rw [← HN.out]; rfl, hb⟩
  · go_enter Tryz.func85, Tryz.ntmps85
    go_wp2_with fail
    refine HC.out.mono ?_
    rintro e w2 ⟨rfl, hb⟩
    go_wp2
    go_ret2
    exact ⟨_, by rw [← HN.out]; rfl, hb⟩

/-- the rune; -1: there is none -/
def nextR (l : List UInt8) : Int := if (dec l).1 = 65533 ∧ (dec l).2 < 2 then -1 else ((dec l).1 : Int)
def NextFull (l : List UInt8) (w : World) (e : Ending) (w' : World) : Prop :=
  e = .returned (.tuple #[.int .i32 (nextR l), .int .i64 (dec l).2]) ∧ Below w.heap.size w w'
set_option maxHeartbeats 400000 in
theorem next_full (s : ByteArray) (w : World) (hT : Tabs w) : Calls Tryz.prog 85 #[.string s] w (NextFull s.data.toList w) := by
  have hc := Tryz.utf8_DecodeRuneInString s w hT
  rw [decodeGo_dec] at hc
  obtain ⟨r, hr⟩ : ∃ r, r = (dec s.data.toList).1 := ⟨_, rfl⟩
  obtain ⟨n, hn⟩ : ∃ n, n = (dec s.data.toList).2 := ⟨_, rfl⟩
  rw [← hr, ← hn] at hc
  have hf : nextR s.data.toList = if r = 65533 ∧ n < 2 then -1 else (r : Int) := by unfold nextR; rw [← hr, ← hn]
  have HC := Lib.hid hc
  have HN := Lib.hid hn
  have HF := Lib.hid hf
  clear hf
  clear hc hr hn
  by_cases h1 : r = 65533
  · subst h1
    by_cases h2 : n < 2
    · have FX := Lib.hid (HF.out.trans (if_pos ⟨rfl, h2⟩))
      go_enter Tryz.func85, Tryz.ntmps85
      go_wp2_with fail
      refine HC.out.mono ?_
      rintro e w2 ⟨rfl, hb⟩
      go_wp2
      go_ret2
      exact ⟨by rw [← HN.out, FX.out]; rfl, hb⟩
    · have FX := Lib.hid (HF.out.trans (if_neg (fun h => h2 h.2)))
      go_enter Tryz.func85, Tryz.ntmps85
      go_wp2_with fail
      refine HC.out.mono ?_
      rintro e w2 ⟨rfl, hb⟩
      go_wp2
      go_ret2
      exact ⟨by rw [← HN.out, FX.out]; rfl, hb⟩
  · have FX := Lib.hid (HF.out.trans (if_neg (fun h => h1 h.1)))
    go_enter Tryz.func85, Tryz.ntmps85
    go_wp2_with fail
    refine HC.out.mono ?_
    rintro e w2 ⟨rfl, hb⟩
    go_wp2
    go_ret2
    exact ⟨by rw [← HN.out, FX.out]; rfl, hb⟩

def BadPost (l : List UInt8) (w : World) (e : Ending) (w' : World) : Prop :=
  ∃ i : Int, e = .returned (.int .i64 i) ∧ (i < 0 ↔ okText l) ∧ Below w.heap.size w w'

theorem drop_ne {l : List UInt8} {p : Nat} (h : p < l.length) : l.drop p ≠ [] := by
  intro e
  have := congrArg List.length e
  simp at this
  omega

set_option maxHeartbeats 1000000 in
theorem bad_any (s : ByteArray) (w : World) (hT : Tabs w) (hs : s.size ≤ 4611686018427387904) : Calls Tryz.prog 51 #[.string s] w (BadPost s.data.toList w) := by
  have hsl := Lib.size_eq s
  obtain ⟨l, hl⟩ : ∃ l, l = s.data.toList := ⟨_, rfl⟩
  rw [← hl] at hsl ⊢
  have HL := Lib.hid hl
  have HSL := Lib.hid hsl
  have HT := Lib.hid hT
  clear hl hsl hT
  go_enter Tryz.func51, Tryz.ntmps51
  go_wp2
  go_loopw [] (fun wr => ∃ pos : Nat, wr.heap[w.heap.size]? = some (.stringIter s pos) ∧ Below w.heap.size w wr ∧ Hid (okText (l.drop pos) ↔ okText l) ∧ pos ≤ s.size) (fun wr => s.size - wr.iterPos w.heap.size)
  case atStart =>
    refine ⟨0, World.iter_heap w s 0, (Below.refl _ w).alloc (Nat.le_refl _) _, ?_, Nat.zero_le _⟩
    show _ ↔ _
    rw [List.drop_zero]
  case round =>
    obtain ⟨pos, hit, hbw, hok, hps⟩ := hrel
    have hsz : w.heap.size < wr.heap.size := (Array.getElem?_eq_some_iff.1 hit).1
    by_cases hp : pos < s.size
    · have hnx : ∀ ty, (Instr.next (.pointer (some ⟨w.heap.size, 0, none⟩)) true ty).run Tryz.prog wr = _ := fun ty => Lib.run_next_any_at wr w.heap.size s pos ty hit hp
      have hdd := Lib.decodeL_drop s pos
      rw [← HL.out] at hdd
      rw [← hdd] at hnx
      have hne : l.drop pos ≠ [] := drop_ne (by have := HSL.out; omega)
      have hd1 := decodeL_pos (l.drop pos)
      have hd4 : pos + (Lib.decodeL (l.drop pos)).2 ≤ s.size := by
        have h5 := decodeL_le_len (l.drop pos) hne
        rw [List.length_drop, ← HSL.out] at h5
        omega
      have hst := okText_step (l.drop pos) hne
      rw [hok.out, List.drop_drop] at hst
      obtain ⟨r, hr⟩ : ∃ r, r = (Lib.decodeL (l.drop pos)).1 := ⟨_, rfl⟩
      obtain ⟨n, hn⟩ : ∃ n, n = (Lib.decodeL (l.drop pos)).2 := ⟨_, rfl⟩
      have hpair : Lib.decodeL (l.drop pos) = (r, n) := by rw [hr, hn]
      rw [← hr, ← hn] at hnx
      rw [← hn] at hd1 hd4
      rw [hpair] at hst
      have hdec : dec (l.drop pos) = (r, n) := by unfold dec; rw [if_neg hne, hpair]
      have hit2 := Lib.iterAt_heap wr w.heap.size s pos (pos + n) hit
      have hbw2 := Lib.below_iterAt hbw (k := w.heap.size) (Nat.le_refl _) s (pos + n)
      have hsz2 : w.heap.size < (wr.iterAt w.heap.size s (pos + n)).heap.size := by rw [Lib.iterAt_size]; exact hsz
      have HST := Lib.hid hst
      have HDEC := Lib.hid hdec
      clear hst hdec hpair hr hn hne hdd
      by_cases h1 : r = 65533
      · subst h1
        obtain ⟨w1, hw1⟩ : ∃ w1, w1 = wr.iterAt w.heap.size s (pos + n) := ⟨_, rfl⟩
        rw [← hw1] at hit2 hbw2 hsz2
        have HX := Lib.hid (next_any (s.extract pos s.size) w1 (HT.out.keep hbw2))
        unfold NextPost at HX
        rw [Lib.extract_to_end, ← HL.out, HDEC.out] at HX
        have HW := Lib.hid hw1
        by_cases h2 : n = 1
        · subst h2
          go_wp2_with fail
          rw [← HW.out]
          refine HX.out.mono ?_
          rintro e w2 ⟨r2, rfl, hb⟩
          have hb2 : Below w.heap.size w w2 := hbw2.trans (hb.mono (by omega))
          go_wp2
          go_ret
          refine ⟨(pos : Int), rfl, ⟨fun h => by omega, fun h => ?_⟩, hb2⟩
          exact absurd rfl (HST.out.1 h).1
        · have hb2 : ((n : Int) == 1) = false := by simp; omega
          have hn1 : ((65533, n) : Nat × Nat) ≠ (65533, 1) := by intro e; exact h2 (Prod.mk.inj e).2
          go_wp2_with fail
          rw [← HW.out]
          refine HX.out.mono ?_
          rintro e w2 ⟨r2, rfl, hb⟩
          have hb3 : Below w.heap.size w w2 := hbw2.trans (hb.mono (by omega))
          have hit3 : w2.heap[w.heap.size]? = some (.stringIter s (pos + n)) := by rw [hb.block _ hsz2]; exact hit2
          have hok2 : Hid (okText (l.drop (pos + n)) ↔ okText l) := by
            show _ ↔ _
            rw [HST.out]; exact ⟨fun h => ⟨hn1, h⟩, fun h => h.2⟩
          clear hb hit2 hbw2
          go_wp2
          go_roundw
          case rel => exact ⟨pos + n, hit3, hb3, hok2, hd4⟩
          case measure =>
            simp only [World.iterPos, hit3, hit]
            omega
      · have hn1 : ((r, n) : Nat × Nat) ≠ (65533, 1) := by intro e; exact h1 (Prod.mk.inj e).1
        have hok2 : Hid (okText (l.drop (pos + n)) ↔ okText l) := by
          show _ ↔ _
          rw [HST.out]; exact ⟨fun h => ⟨hn1, h⟩, fun h => h.2⟩
        have hr2 : ((r : Int) == 65533) = false := by simp; omega
        go_wp2
        go_roundw
        case rel => exact ⟨pos + n, hit2, hbw2, hok2, hd4⟩
        case measure =>
          simp only [World.iterPos, hit2, hit]
          omega
    · have hnx : ∀ ty, (Instr.next (.pointer (some ⟨w.heap.size, 0, none⟩)) true ty).run Tryz.prog wr = _ := fun ty => Lib.run_next_end_at wr w.heap.size s pos ty hit hp
      have hfin : okText l := by
        rw [← hok.out, List.drop_eq_nil_of_le (by have := HSL.out; omega)]; exact okText_nil
      go_wp2
      go_ret
      exact ⟨-1, rfl, ⟨fun _ => hfin, fun _ => by omega⟩, hbw⟩
end Go.Proofs.YtldhmfkojaekfaaGreatDoor
namespace Go.Proofs.YtldhmfkojaekfaaGreatDoor
open Go.RowKit Gx
set_option maxRecDepth 100000

/-- the bits of a fraction that are no number's, and not the one that stands for it -/
def nanBad (f : Int) : Bool := (bits .and .u64 (f / 4503599627370496) 2047 == 2047) && (bits .and .u64 f 4503599627370495 != 0) && (f != 9221120237041090561)
def kindBad (k n f : Int) (s : ByteArray) (nl ne : Nat) : Bool :=
  decide (k < 0) || decide (6 < k) || (!(k == 1 || k == 2) && n != 0) || (k == 1 && n != 0 && n != 1) || (k != 3 && f != 0) || nanBad f ||
    (k != 4 && !s.toList.isEmpty) || (k != 5 && decide (0 < nl)) || (k != 6 && decide (0 < ne))
open Classical in
/-- what own says -/
noncomputable def ownE (k n f : Int) (s : ByteArray) (nl ne : Nat) : Nat :=
  if kindBad k n f s nl ne then 10 else if 4000 < s.size ∨ 200 < nl ∨ 200 < ne then 2 else if okText s.data.toList then 0 else 3
def OwnPost (r : Nat) (w : World) (e : Ending) (w' : World) : Prop := e = .returned (.int .i64 r) ∧ Below w.heap.size w w'
theorem nan0 : nanBad 0 = false := by decide
theorem nan_of {f E F : Int} (hE : bits .and .u64 (f / 4503599627370496) 2047 = E) (hF : bits .and .u64 f 4503599627370495 = F) : nanBad f = ((E == 2047) && (F != 0) && (f != 9221120237041090561)) := by unfold nanBad; rw [hE, hF]
theorem empty_of {s : ByteArray} (h : s.toList.isEmpty = true) : s = ⟨#[]⟩ := by
  have h1 : s.toList = [] := by simpa using h
  have h2 : s.data.toList = [] := by rw [← h1]; exact (ByteArray.toList_eq s).symm
  obtain ⟨a⟩ := s
  have : a = #[] := by simpa using h2
  rw [this]
theorem empty_size : (ByteArray.mk #[]).size = 0 := rfl
theorem empty_bad : (ByteArray.mk #[]).toList.isEmpty = true := by rw [ByteArray.toList_eq]; rfl


end Go.Proofs.YtldhmfkojaekfaaGreatDoor
namespace Go.Proofs.YtldhmfkojaekfaaGreatDoor
open Go.RowKit Gx

/-- what own says of a value -/
noncomputable def ownV (v : V) : Nat := ownE v.k v.n v.f v.s v.l.length v.e.length
/-- the first fault of keys, prev being the one ahead -/
def keyBad (prev : Option ByteArray) (x : ByteArray) : Bool := match prev with | none => false | some p => !(Op.bytesLess p.toList x.toList)
open Classical in
noncomputable def keyE (prev : Option ByteArray) : List (ByteArray × V) → Nat
  | [] => 0
  | x :: xs => if 100 < x.1.size then 2 else if ¬ okText x.1.data.toList then 3 else if keyBad prev x.1 = true then 14 else keyE (some x.1) xs
/-- all of them, one behind the other -/
def chkAll (f : V → Nat → Nat × Nat) : List V → Nat → Nat × Nat
  | [], m => (0, m)
  | x :: xs, m => if (f x m).1 = 0 then chkAll f xs (f x m).2 else f x m
/-- what check says, d levels being left, m nodes being counted; and how many are then -/
noncomputable def chk : Nat → V → Nat → Nat × Nat
  | 0, _, m => (if 2000 < m + 1 then 2 else 5, m + 1)
  | d + 1, v, m => if 2000 < m + 1 then (2, m + 1) else if ownV v ≠ 0 then (ownV v, m + 1) else if keyE none v.e ≠ 0 then (keyE none v.e, m + 1) else chkAll (chk d) v.parts (m + 1)

/-- what Check says -/
noncomputable def chkV (v : V) : Nat := (chk 20 v 0).1

theorem chkAll_snoc (f : V → Nat → Nat × Nat) : ∀ (xs : List V) (x : V) (m : Nat), (chkAll f xs m).1 = 0 → chkAll f (xs ++ [x]) m = f x (chkAll f xs m).2
  | [], x, m, _ => by
    show (if (f x m).1 = 0 then (0, (f x m).2) else f x m) = f x m
    by_cases h : (f x m).1 = 0
    · rw [if_pos h]; exact Prod.ext h.symm rfl
    · rw [if_neg h]
  | y :: xs, x, m, h => by
    have e : ∀ zs, chkAll f (y :: zs) m = if (f y m).1 = 0 then chkAll f zs (f y m).2 else f y m := fun _ => rfl
    rw [e] at h
    rw [List.cons_append, e, e]
    by_cases h1 : (f y m).1 = 0
    · rw [if_pos h1] at h
      rw [if_pos h1, if_pos h1]
      exact chkAll_snoc f xs x _ h
    · rw [if_neg h1] at h
      exact absurd h h1
theorem chkAll_stop (f : V → Nat → Nat × Nat) : ∀ (xs ys : List V) (m : Nat), (chkAll f xs m).1 ≠ 0 → chkAll f (xs ++ ys) m = chkAll f xs m
  | [], ys, m, h => absurd rfl h
  | x :: xs, ys, m, h => by
    simp only [chkAll, List.cons_append] at h ⊢
    by_cases h1 : (f x m).1 = 0
    · rw [if_pos h1] at h
      rw [if_pos h1, if_pos h1]
      exact chkAll_stop f xs ys _ h
    · rw [if_neg h1, if_neg h1]
theorem chkAll_le (f : V → Nat → Nat × Nat) (hf : ∀ x m, m ≤ 2000 → (f x m).2 ≤ 2001 ∧ ((f x m).1 = 0 → (f x m).2 ≤ 2000)) : ∀ (xs : List V) (m : Nat), m ≤ 2000 → (chkAll f xs m).2 ≤ 2001 ∧ ((chkAll f xs m).1 = 0 → (chkAll f xs m).2 ≤ 2000)
  | [], m, h => ⟨by simp [chkAll]; omega, fun _ => h⟩
  | x :: xs, m, h => by
    simp only [chkAll]
    by_cases h1 : (f x m).1 = 0
    · rw [if_pos h1]
      exact chkAll_le f hf xs _ ((hf x m h).2 h1)
    · rw [if_neg h1]
      exact hf x m h
theorem chk_le : ∀ (d : Nat) (v : V) (m : Nat), m ≤ 2000 → (chk d v m).2 ≤ 2001 ∧ ((chk d v m).1 = 0 → (chk d v m).2 ≤ 2000)
  | 0, v, m, h => by
    simp only [chk]
    refine ⟨by omega, fun h2 => ?_⟩
    split at h2 <;> cases h2
  | d + 1, v, m, h => by
    simp only [chk]
    by_cases h1 : 2000 < m + 1
    · rw [if_pos h1]; exact ⟨by simp only; omega, fun h2 => by cases h2⟩
    rw [if_neg h1]
    by_cases h2 : ownV v ≠ 0
    · rw [if_pos h2]; exact ⟨by simp only; omega, fun h3 => absurd h3 h2⟩
    rw [if_neg h2]
    by_cases h3 : keyE none v.e ≠ 0
    · rw [if_pos h3]; exact ⟨by simp only; omega, fun h4 => absurd h4 h3⟩
    rw [if_neg h3]
    exact chkAll_le _ (chk_le d) _ _ (by omega)
/-- the key ahead of the k-th -/
def prevK (e : List (ByteArray × V)) (k : Nat) : Option ByteArray := if k = 0 then none else (e[k - 1]?).map Prod.fst
theorem prevK_succ {e : List (ByteArray × V)} {k : Nat} {x : ByteArray × V} (h : e[k]? = some x) : prevK e (k + 1) = some x.1 := by unfold prevK; simp [h]
open Classical in
theorem keyE_drop {e : List (ByteArray × V)} {k : Nat} {x : ByteArray × V} (h : e[k]? = some x) : keyE (prevK e k) (e.drop k) =
    if 100 < x.1.size then 2 else if ¬ okText x.1.data.toList then 3 else if keyBad (prevK e k) x.1 = true then 14 else keyE (prevK e (k + 1)) (e.drop (k + 1)) := by
  obtain ⟨hl, hx⟩ := List.getElem?_eq_some_iff.1 h
  rw [prevK_succ h, List.drop_eq_getElem_cons hl, hx, keyE]
theorem keyE_end (e : List (ByteArray × V)) (p : Option ByteArray) : keyE p (e.drop e.length) = 0 := by rw [List.drop_length]; rfl
end Go.Proofs.YtldhmfkojaekfaaGreatDoor
namespace Go.Proofs.YtldhmfkojaekfaaGreatDoor
open Go.RowKit Gx

theorem ownV_zero {v : V} (h : ownV v = 0) : kindBad v.k v.n v.f v.s v.l.length v.e.length = false ∧ v.s.size ≤ 4000 ∧ v.l.length ≤ 200 ∧ v.e.length ≤ 200 ∧ okText v.s.data.toList := by
  unfold ownV ownE at h
  by_cases h1 : kindBad v.k v.n v.f v.s v.l.length v.e.length = true
  · rw [if_pos h1] at h; cases h
  rw [if_neg h1] at h
  by_cases h2 : 4000 < v.s.size ∨ 200 < v.l.length ∨ 200 < v.e.length
  · rw [if_pos h2] at h; cases h
  rw [if_neg h2] at h
  by_cases h3 : okText v.s.data.toList
  · exact ⟨by simpa using h1, by omega, by omega, by omega, h3⟩
  · rw [if_neg h3] at h; cases h
/-- what a good value's own numbers are -/
structure OwnOk (v : V) : Prop where
  k0 : 0 ≤ v.k
  k6 : v.k ≤ 6
  n : v.k ≠ 1 → v.k ≠ 2 → v.n = 0
  n1 : v.k = 1 → v.n = 0 ∨ v.n = 1
  f : v.k ≠ 3 → v.f = 0
  s : v.k ≠ 4 → v.s = ⟨#[]⟩
  l : v.k ≠ 5 → v.l = []
  e : v.k ≠ 6 → v.e = []
  nan : nanBad v.f = false
theorem kindBad_ok {v : V} (h : kindBad v.k v.n v.f v.s v.l.length v.e.length = false) : OwnOk v := by
  unfold kindBad at h
  simp only [Bool.or_eq_false_iff, Bool.and_eq_false_iff, decide_eq_false_iff_not, bne_eq_false_iff_eq, Bool.not_eq_false', beq_iff_eq, Bool.or_eq_true, beq_eq_false_iff_ne, Bool.not_eq_eq_eq_not, Bool.not_true] at h
  obtain ⟨⟨⟨⟨⟨⟨⟨⟨h1, h2⟩, h3⟩, h4⟩, h5⟩, h6⟩, h7⟩, h8⟩, h9⟩ := h
  refine ⟨by omega, by omega, fun a b => ?_, fun a => ?_, fun a => ?_, fun a => ?_, fun a => ?_, fun a => ?_, h6⟩
  · rcases h3 with h3 | h3
    · simp at h3; omega
    · exact h3
  · omega
  · omega
  · rcases h7 with h7 | h7
    · exact absurd h7 a
    · exact empty_of (by simpa using h7)
  · rcases h8 with h8 | h8
    · exact absurd h8 a
    · exact List.eq_nil_of_length_eq_zero (by omega)
  · rcases h9 with h9 | h9
    · exact absurd h9 a
    · exact List.eq_nil_of_length_eq_zero (by omega)
/-- keys are short -/
theorem keyE_short : ∀ (e : List (ByteArray × V)) (p : Option ByteArray), keyE p e = 0 → ∀ x ∈ e, x.1.size ≤ 100 ∧ okText x.1.data.toList
  | [], _, _, x, hx => by cases hx
  | y :: e, p, h, x, hx => by
    rw [keyE] at h
    by_cases h1 : 100 < y.1.size
    · rw [if_pos h1] at h; cases h
    rw [if_neg h1] at h
    by_cases h2 : okText y.1.data.toList
    · rw [if_neg (fun g => g h2)] at h
      by_cases h3 : keyBad p y.1 = true
      · rw [if_pos h3] at h; cases h
      rw [if_neg h3] at h
      rcases List.mem_cons.1 hx with rfl | hx
      · exact ⟨by omega, h2⟩
      · exact keyE_short e _ h x hx
    · rw [if_pos h2] at h; cases h

/-- good, and no deeper than d -/
def Gd : Nat → V → Prop
  | 0, _ => False
  | d + 1, v => ownV v = 0 ∧ keyE none v.e = 0 ∧ ∀ x ∈ v.parts, Gd d x
theorem chk_gd : ∀ (d : Nat) (v : V) (m : Nat), (chk d v m).1 = 0 → Gd d v
  | 0, v, m, h => by simp only [chk] at h; split at h <;> cases h
  | d + 1, v, m, h => by
    simp only [chk] at h
    by_cases h1 : 2000 < m + 1
    · rw [if_pos h1] at h; cases h
    rw [if_neg h1] at h
    by_cases h2 : ownV v ≠ 0
    · rw [if_pos h2] at h; exact absurd h h2
    rw [if_neg h2] at h
    by_cases h3 : keyE none v.e ≠ 0
    · rw [if_pos h3] at h; exact absurd h h3
    rw [if_neg h3] at h
    refine ⟨by omega, by omega, ?_⟩
    have hall : ∀ (xs : List V) (m : Nat), (chkAll (chk d) xs m).1 = 0 → ∀ x ∈ xs, Gd d x := by
      intro xs
      induction xs with
      | nil => intro m _ x hx; cases hx
      | cons y ys ih =>
        intro m hm x hx
        have e : chkAll (chk d) (y :: ys) m = if (chk d y m).1 = 0 then chkAll (chk d) ys (chk d y m).2 else chk d y m := rfl
        rw [e] at hm
        by_cases hy : (chk d y m).1 = 0
        · rw [if_pos hy] at hm
          rcases List.mem_cons.1 hx with rfl | hx
          · exact chk_gd d x m hy
          · exact ih _ hm x hx
        · rw [if_neg hy] at hm; exact absurd hm hy
    exact hall _ _ h
/-- what a good value is, by its kind -/
theorem Gd.ok {d : Nat} {v : V} (h : Gd (d + 1) v) : OwnOk v := kindBad_ok (ownV_zero h.1).1
theorem Gd.list {d : Nat} {v : V} (h : Gd (d + 1) v) (hk : v.k = 5) : v = .mk 5 0 0 ⟨#[]⟩ v.l [] := by
  have ok := h.ok
  exact V.ext' hk (ok.n (by omega) (by omega)) (ok.f (by omega)) (ok.s (by omega)) rfl (ok.e (by omega))
theorem Gd.table {d : Nat} {v : V} (h : Gd (d + 1) v) (hk : v.k = 6) : v = .mk 6 0 0 ⟨#[]⟩ [] v.e := by
  have ok := h.ok
  exact V.ext' hk (ok.n (by omega) (by omega)) (ok.f (by omega)) (ok.s (by omega)) (ok.l (by omega)) rfl
theorem Gd.l {d : Nat} {v : V} (h : Gd (d + 1) v) : ∀ x ∈ v.l, Gd d x := fun x hx => h.2.2 x (List.mem_append_left _ hx)
theorem Gd.e {d : Nat} {v : V} (h : Gd (d + 1) v) : ∀ x ∈ v.e, Gd d x.2 := fun x hx => h.2.2 x.2 (List.mem_append_right _ (List.mem_map_of_mem hx))
end Go.Proofs.YtldhmfkojaekfaaGreatDoor
namespace Go.Proofs.YtldhmfkojaekfaaGreatDoor
open Go.RowKit Gx

/-- what stands behind a value -/
def Stop (r : List UInt8) : Prop := ∀ c, r.head? = some c → c = 44 ∨ c = 93 ∨ c = 125 ∨ c = 10
def indentT (k : Nat) : List UInt8 := List.replicate (2 * k) 32
/-- ahead of an element; behind it; behind all -/
def preT (many : Bool) (deep i : Nat) : List UInt8 := if many then 10 :: indentT (deep + 1) else if i = 0 then [] else [44, 32]
def postT (many : Bool) : List UInt8 := if many then [44] else []
def tailT (many : Bool) (deep n : Nat) : List UInt8 := if many && decide (0 < n) then 10 :: indentT deep else []
def elemsT {α : Type} (many : Bool) (deep : Nat) (E : α → List UInt8) : Nat → List α → List UInt8
  | _, [] => []
  | i, x :: l => preT many deep i ++ E x ++ postT many ++ elemsT many deep E (i + 1) l
/-- the text of a value, d levels being left -/
def shwD (leafT : V → List UInt8) (keyT : ByteArray → List UInt8) (many : Bool) : Nat → Nat → V → List UInt8
  | 0, _, _ => []
  | d + 1, deep, v =>
    if v.k = 5 then 91 :: (elemsT many deep (shwD leafT keyT many d (deep + 1)) 0 v.l ++ (tailT many deep v.l.length ++ [93]))
    else if v.k = 6 then 123 :: (elemsT many deep (fun x : ByteArray × V => keyT x.1 ++ ([58, 32] ++ shwD leafT keyT many d (deep + 1) x.2)) 0 v.e ++ (tailT many deep v.e.length ++ [125]))
    else leafT v
theorem elemsT_snoc {α : Type} (many : Bool) (deep : Nat) (E : α → List UInt8) : ∀ (l : List α) (i : Nat) (x : α), elemsT many deep E i (l ++ [x]) = elemsT many deep E i l ++ (preT many deep (i + l.length) ++ E x ++ postT many)
  | [], i, x => by simp [elemsT]
  | y :: l, i, x => by
    rw [List.cons_append, elemsT, elemsT, elemsT_snoc many deep E l (i + 1) x, show i + 1 + l.length = i + (y :: l).length by simp; omega]
    simp
theorem elems_nil {α : Type} {many : Bool} {deep : Nat} {E : α → List UInt8} {P : α → Prop} (hh : ∀ a, P a → ∃ c t, E a = c :: t ∧ c ≠ 93 ∧ c ≠ 125) (cl : UInt8) (hcl : cl = 93 ∨ cl = 125)
    (y : α) (m : List α) (i : Nat) (r s : List UInt8) (hy : P y) (h : tailT many deep i ++ cl :: r = preT many deep i ++ (E y ++ s)) : False := by
  obtain ⟨c, t, hc, h1, h2⟩ := hh y hy
  cases many with
  | false =>
    simp only [tailT, Bool.false_and, Bool.false_eq_true, if_false, List.nil_append, preT] at h
    by_cases hi : i = 0
    · rw [if_pos hi, hc] at h
      have := (List.cons.inj h).1
      rcases hcl with e | e <;> (subst e; first | exact h1 this.symm | exact h2 this.symm)
    · rw [if_neg hi] at h
      have := (List.cons.inj h).1
      rcases hcl with e | e <;> (subst e; exact absurd this (by decide))
  | true =>
    simp only [tailT, Bool.true_and, preT, if_true] at h
    by_cases hi : 0 < i
    · rw [if_pos (decide_eq_true hi)] at h
      have h3 : indentT deep ++ cl :: r = indentT (deep + 1) ++ (E y ++ s) := (List.cons.inj h).2
      unfold indentT at h3
      have e : List.replicate (2 * (deep + 1)) (32 : UInt8) = List.replicate (2 * deep) 32 ++ [32, 32] := by
        rw [show 2 * (deep + 1) = 2 * deep + 2 by omega, ← List.replicate_append_replicate]; rfl
      rw [e, List.append_assoc] at h3
      have h4 := List.append_cancel_left h3
      have := (List.cons.inj h4).1
      rcases hcl with e | e <;> (subst e; exact absurd this (by decide))
    · rw [if_neg (by simpa using hi)] at h
      have := (List.cons.inj h).1
      rcases hcl with e | e <;> (subst e; exact absurd this (by decide))
theorem elems_stop {α : Type} {many : Bool} {deep : Nat} {E : α → List UInt8} (cl : UInt8) (hcl : cl = 93 ∨ cl = 125) (i : Nat) (z : List α) (q : List UInt8) :
    Stop (postT many ++ (elemsT many deep E (i + 1) z ++ (tailT many deep (i + (z.length + 1)) ++ cl :: q))) := by
  intro c hc
  cases many with
  | true =>
    simp only [postT, if_true, List.cons_append, List.head?_cons, Option.some.injEq] at hc
    exact .inl hc.symm
  | false =>
    cases z with
    | nil =>
      simp only [postT, elemsT, tailT, Bool.false_and, Bool.false_eq_true, if_false, List.nil_append, List.head?_cons, Option.some.injEq] at hc
      subst hc
      rcases hcl with e | e
      · exact .inr (.inl e)
      · exact .inr (.inr (.inl e))
    | cons a z =>
      have e : (if i + 1 = 0 then ([] : List UInt8) else [44, 32]) = [44, 32] := if_neg (by omega)
      simp only [postT, elemsT, preT, Bool.false_eq_true, if_false, List.nil_append, e, List.cons_append, List.head?_cons, Option.some.injEq] at hc
      exact .inl hc.symm
/-- elements tell themselves -/
theorem elems_tell {α : Type} {many : Bool} {deep : Nat} {E : α → List UInt8} {P : α → Prop} (hE : ∀ a b r s, P a → P b → Stop r → Stop s → E a ++ r = E b ++ s → a = b ∧ r = s) (hh : ∀ a, P a → ∃ c t, E a = c :: t ∧ c ≠ 93 ∧ c ≠ 125) (cl : UInt8) (hcl : cl = 93 ∨ cl = 125) :
    ∀ (l m : List α) (i : Nat) (r s : List UInt8), (∀ x ∈ l, P x) → (∀ x ∈ m, P x) →
      elemsT many deep E i l ++ (tailT many deep (i + l.length) ++ cl :: r) = elemsT many deep E i m ++ (tailT many deep (i + m.length) ++ cl :: s) → l = m ∧ r = s
  | [], [], i, r, s, _, _, h => by
    simp only [elemsT, List.nil_append, List.length_nil] at h
    have := List.append_cancel_left h
    exact ⟨rfl, (List.cons.inj this).2⟩
  | [], y :: m, i, r, s, _, hm, h => by
    simp only [elemsT, List.nil_append, List.length_nil, Nat.add_zero, List.append_assoc] at h
    exact (elems_nil hh cl hcl y m i _ _ (hm y (by simp)) h).elim
  | x :: l, [], i, r, s, hl, _, h => by
    simp only [elemsT, List.nil_append, List.length_nil, Nat.add_zero, List.append_assoc] at h
    exact (elems_nil hh cl hcl x l i _ _ (hl x (by simp)) h.symm).elim
  | x :: l, y :: m, i, r, s, hl, hm, h => by
    simp only [elemsT, List.append_assoc, List.length_cons] at h
    have h1 := List.append_cancel_left h
    obtain ⟨rfl, h2⟩ := hE x y _ _ (hl x (by simp)) (hm y (by simp)) (elems_stop cl hcl i l r) (elems_stop cl hcl i m s) h1
    have h3 := List.append_cancel_left h2
    obtain ⟨rfl, h4⟩ := elems_tell hE hh cl hcl l m (i + 1) r s (fun z hz => hl z (by simp [hz])) (fun z hz => hm z (by simp [hz])) (by
      rw [show i + 1 + l.length = i + (l.length + 1) by omega, show i + 1 + m.length = i + (m.length + 1) by omega]; exact h3)
    exact ⟨rfl, h4⟩
/-- what leaves and keys tell -/
structure Tells2 (leafT : V → List UInt8) (keyT : ByteArray → List UInt8) (G : V → Prop) (K : ByteArray → Prop) : Prop where
  leaf : ∀ v w r s, G v → G w → v.k ≠ 5 → v.k ≠ 6 → w.k ≠ 5 → w.k ≠ 6 → Stop r → Stop s → leafT v ++ r = leafT w ++ s → v = w ∧ r = s
  head : ∀ v, G v → v.k ≠ 5 → v.k ≠ 6 → ∃ c t, leafT v = c :: t ∧ c ≠ 93 ∧ c ≠ 125 ∧ c ≠ 91 ∧ c ≠ 123
  key : ∀ k m r s, K k → K m → keyT k ++ 58 :: r = keyT m ++ 58 :: s → k = m ∧ r = s
  khead : ∀ k, K k → ∃ c t, keyT k = c :: t ∧ c ≠ 93 ∧ c ≠ 125
/-- good values, by how deep they are -/
structure Fam (G : Nat → V → Prop) : Prop where
  zero : ∀ v, ¬ G 0 v
  list : ∀ d v, G (d + 1) v → v.k = 5 → v = .mk 5 0 0 ⟨#[]⟩ v.l []
  table : ∀ d v, G (d + 1) v → v.k = 6 → v = .mk 6 0 0 ⟨#[]⟩ [] v.e
  l : ∀ d v, G (d + 1) v → ∀ x ∈ v.l, G d x
  e : ∀ d v, G (d + 1) v → ∀ x ∈ v.e, G d x.2
theorem shw_head {G : Nat → V → Prop} {leafT : V → List UInt8} {keyT : ByteArray → List UInt8} {K : ByteArray → Prop} {many : Bool} {d deep : Nat} {v : V} (H : ∀ d, Tells2 leafT keyT (G (d + 1)) K) (h : G (d + 1) v) : ∃ c t, shwD leafT keyT many (d + 1) deep v = c :: t ∧ c ≠ 93 ∧ c ≠ 125 := by
  rw [shwD]
  by_cases h5 : v.k = 5
  · rw [if_pos h5]; exact ⟨91, _, rfl, by decide, by decide⟩
  rw [if_neg h5]
  by_cases h6 : v.k = 6
  · rw [if_pos h6]; exact ⟨123, _, rfl, by decide, by decide⟩
  rw [if_neg h6]
  obtain ⟨c, t, h1, h2, h3, -⟩ := (H d).head v h h5 h6
  exact ⟨c, t, h1, h2, h3⟩
/-- the text tells the value -/
theorem shw_tell {G : Nat → V → Prop} (F : Fam G) {leafT : V → List UInt8} {keyT : ByteArray → List UInt8} {K : ByteArray → Prop} {many : Bool} (H : ∀ d, Tells2 leafT keyT (G (d + 1)) K) (hK : ∀ d v, G (d + 1) v → ∀ x ∈ v.e, K x.1) :
    ∀ (d deep : Nat) (v w : V) (r s : List UInt8), G d v → G d w → Stop r → Stop s → shwD leafT keyT many d deep v ++ r = shwD leafT keyT many d deep w ++ s → v = w ∧ r = s
  | 0, _, v, w, _, _, h, _, _, _, _ => (F.zero _ h).elim
  | d + 1, deep, v, w, r, s, hv, hw, hr, hs, h => by
    have hl := (H d).leaf v w r s hv hw
    rw [shwD, shwD] at h
    by_cases v5 : v.k = 5
    · rw [if_pos v5] at h
      by_cases w5 : w.k = 5
      · rw [if_pos w5, List.cons_append, List.cons_append, List.append_assoc, List.append_assoc, List.append_assoc, List.append_assoc] at h
        have h1 := (List.cons.inj h).2
        have := elems_tell (many := many) (deep := deep) (E := shwD leafT keyT many d (deep + 1)) (P := G d) (fun a b r s ha hb hr hs he => shw_tell F H hK d (deep + 1) a b r s ha hb hr hs he) (fun a ha => by
          cases d with
          | zero => exact (F.zero _ ha).elim
          | succ d => exact shw_head H ha) 93 (.inl rfl) v.l w.l 0 r s (F.l _ _ hv) (F.l _ _ hw) (by simpa using h1)
        exact ⟨by rw [F.list _ _ hv v5, F.list _ _ hw w5, this.1], this.2⟩
      · rw [if_neg w5] at h
        by_cases w6 : w.k = 6
        · rw [if_pos w6] at h
          exact absurd (List.cons.inj h).1 (by decide)
        · rw [if_neg w6] at h
          obtain ⟨c, t, h1, -, -, h2, -⟩ := (H d).head w hw w5 w6
          rw [h1] at h
          exact absurd (List.cons.inj h).1.symm h2
    · rw [if_neg v5] at h
      by_cases v6 : v.k = 6
      · rw [if_pos v6] at h
        by_cases w5 : w.k = 5
        · rw [if_pos w5] at h
          exact absurd (List.cons.inj h).1 (by decide)
        · rw [if_neg w5] at h
          by_cases w6 : w.k = 6
          · rw [if_pos w6, List.cons_append, List.cons_append, List.append_assoc, List.append_assoc, List.append_assoc, List.append_assoc] at h
            have h1 := (List.cons.inj h).2
            have := elems_tell (many := many) (deep := deep) (E := fun x : ByteArray × V => keyT x.1 ++ ([58, 32] ++ shwD leafT keyT many d (deep + 1) x.2)) (P := fun x : ByteArray × V => K x.1 ∧ G d x.2) (fun a b r s ha hb hr hs he => by
              simp only [List.append_assoc, List.cons_append, List.nil_append] at he
              obtain ⟨k1, k2⟩ := (H 0).key a.1 b.1 _ _ ha.1 hb.1 he
              obtain ⟨v1, v2⟩ := shw_tell F H hK d (deep + 1) a.2 b.2 r s ha.2 hb.2 hr hs (List.cons.inj k2).2
              exact ⟨Prod.ext k1 v1, v2⟩) (fun a ha => by
              obtain ⟨c, t, h1, h2, h3⟩ := (H 0).khead a.1 ha.1
              exact ⟨c, _, by rw [h1]; rfl, h2, h3⟩) 125 (.inr rfl) v.e w.e 0 r s (fun x hx => ⟨hK d v hv x hx, F.e _ _ hv x hx⟩) (fun x hx => ⟨hK d w hw x hx, F.e _ _ hw x hx⟩) (by simpa using h1)
            exact ⟨by rw [F.table _ _ hv v6, F.table _ _ hw w6, this.1], this.2⟩
          · rw [if_neg w6] at h
            obtain ⟨c, t, h1, -, -, -, h2⟩ := (H d).head w hw w5 w6
            rw [h1] at h
            exact absurd (List.cons.inj h).1.symm h2
      · rw [if_neg v6] at h
        obtain ⟨c, t, h1, -, -, h2, h3⟩ := (H d).head v hv v5 v6
        by_cases w5 : w.k = 5
        · rw [if_pos w5, h1] at h
          exact absurd (List.cons.inj h).1 h2
        · rw [if_neg w5] at h
          by_cases w6 : w.k = 6
          · rw [if_pos w6, h1] at h
            exact absurd (List.cons.inj h).1 h3
          · rw [if_neg w6] at h
            exact hl v5 v6 w5 w6 hr hs h
end Go.Proofs.YtldhmfkojaekfaaGreatDoor
namespace Go.Proofs.YtldhmfkojaekfaaGreatDoor
open Go.RowKit Gx
set_option maxRecDepth 100000

/-- what a printer's writes leave alone -/
structure KeepP (b : Nat) (w w' : World) : Prop where
  below : Below b w w'
  oth : Lib.OthersKept 5 (some b) w w'
  size : w.heap.size ≤ w'.heap.size
theorem KeepP.refl (b : Nat) (w : World) : KeepP b w w := ⟨Below.refl _ _, Lib.OthersKept.refl _ _ _, Nat.le_refl _⟩
theorem KeepP.trans {b : Nat} {w w1 w2 : World} (h : KeepP b w w1) (k : KeepP b w1 w2) : KeepP b w w2 := ⟨h.below.trans k.below, h.oth.trans k.oth, Nat.le_trans h.size k.size⟩
theorem KeepP.of_below {b : Nat} {w w' : World} (h : Below w.heap.size w w') (hb : b ≤ w.heap.size) : KeepP b w w' :=
  ⟨h.mono hb, fun k o hk _ _ => (h.block k (Array.getElem?_eq_some_iff.1 hk).1).trans hk, h.size⟩
theorem PrnPost.keep {v : Value} {b : Nat} {many : Bool} {l : List UInt8} {w w' : World} {e : Ending} (h : PrnPost v b many l w e w') : KeepP b w w' := ⟨h.2.2.1, h.2.2.2.1, h.2.2.2.2⟩
def PrnP (b : Nat) (many : Bool) (l : List UInt8) (w : World) (e : Ending) (w' : World) : Prop := (∃ v, e = .returned v) ∧ Prn b many l w' ∧ KeepP b w w'
def PrnQ (b : Nat) (many : Bool) (l : List UInt8) (Q : Prop) (w : World) (e : Ending) (w' : World) : Prop := PrnP b many l w e w' ∧ Q
theorem repeat_two (j : Nat) : Lib.repeatL [32, 32] j = List.replicate (2 * j) 32 := by
  induction j with
  | zero => rfl
  | succ j ih => rw [Lib.repeatL, ih, show 2 * (j + 1) = 2 + 2 * j by omega, ← List.replicate_append_replicate]; rfl
def StrPostP (x : List UInt8) (w : World) (e : Ending) (w' : World) : Prop := e = .returned (.string ⟨x.toArray⟩) ∧ Below w.heap.size w w'
theorem rep2_any (j : Nat) (hj : j ≤ 100000) (D : Int) (hD : D = j) (w : World) : Calls Tryz.prog 93 #[.string ⟨#[32, 32]⟩, .int .i64 D] w (StrPostP (indentT j) w) := by
  subst hD
  have h := Tryz.strings_Repeat ⟨#[32, 32]⟩ j w (by omega) (by show 2 * j ≤ _; omega)
  rw [show (⟨#[32, 32]⟩ : ByteArray).data.toList = [32, 32] from rfl, repeat_two] at h
  exact h
theorem elemsT_app {α : Type} (many : Bool) (deep : Nat) (E : α → List UInt8) : ∀ (l m : List α) (i : Nat), elemsT many deep E i (l ++ m) = elemsT many deep E i l ++ elemsT many deep E (i + l.length) m
  | [], m, i => by simp [elemsT]
  | y :: l, m, i => by
    rw [List.cons_append, elemsT, elemsT, elemsT_app many deep E l m (i + 1), show i + 1 + l.length = i + (y :: l).length by simp; omega]
    simp
theorem elemsT_map {α β : Type} (many : Bool) (deep : Nat) (E : β → List UInt8) (g : α → β) : ∀ (l : List α) (i : Nat), elemsT many deep E i (l.map g) = elemsT many deep (fun x => E (g x)) i l
  | [], _ => rfl
  | y :: l, i => by rw [List.map_cons, elemsT, elemsT, elemsT_map many deep E g l (i + 1)]
/-- the text of such parts -/
def partsT (many : Bool) (deep : Nat) (xs : List (List UInt8)) : List UInt8 := elemsT many deep (fun x => x) 0 xs
theorem partsT_take {many : Bool} {deep k : Nat} {xs : List (List UInt8)} {x : List UInt8} (h : xs[k]? = some x) : partsT many deep (xs.take (k + 1)) = partsT many deep (xs.take k) ++ preT many deep k ++ x ++ postT many := by
  obtain ⟨hk, rfl⟩ := List.getElem?_eq_some_iff.1 h
  unfold partsT
  rw [List.take_succ_eq_append_getElem hk, elemsT_snoc, List.length_take, Nat.min_eq_left (by omega), Nat.zero_add]
  simp
theorem partsT_le {many : Bool} {deep : Nat} {xs : List (List UInt8)} (k : Nat) : (partsT many deep (xs.take k)).length ≤ (partsT many deep xs).length := by
  unfold partsT
  have e : xs = xs.take k ++ xs.drop k := (List.take_append_drop k xs).symm
  conv => rhs; rw [e]
  rw [elemsT_app, List.length_append]
  omega
theorem nl_size (l : List UInt8) : ((⟨#[10]⟩ : ByteArray) ++ ⟨l.toArray⟩).size = 1 + l.length := by
  rw [ByteArray.size_append]; rfl
theorem nl_list (l : List UInt8) : ((⟨#[10]⟩ : ByteArray) ++ ⟨l.toArray⟩).data.toList = 10 :: l := by
  rw [ByteArray.data_append]; simp
theorem tailT_le (many : Bool) (deep n : Nat) : (tailT many deep n).length ≤ 1 + 2 * deep := by
  unfold tailT indentT
  split <;> simp <;> omega
end Go.Proofs.YtldhmfkojaekfaaGreatDoor
namespace Go.Proofs.YtldhmfkojaekfaaGreatDoor

/-- what a fraction's bits tell, times 2^1074 -/
def fval (b : Nat) : Nat := if b < 4503599627370496 then b else (b % 4503599627370496 + 4503599627370496) * 2 ^ (b / 4503599627370496 - 1)

theorem fval_of (n E : Nat) (h : n < 9007199254740992) (h2 : E = 0 ∨ 4503599627370496 ≤ n) : fval (E * 4503599627370496 + n) = n * 2 ^ E := by
  unfold fval
  rcases h2 with rfl | h2
  · by_cases hn : n < 4503599627370496
    · rw [if_pos (by omega)]; simp
    · rw [if_neg (by omega)]
      have e1 : (0 * 4503599627370496 + n) % 4503599627370496 + 4503599627370496 = n := by omega
      have e2 : (0 * 4503599627370496 + n) / 4503599627370496 - 1 = 0 := by omega
      rw [e1, e2]
  · rw [if_neg (by omega)]
    have e0 : E * 4503599627370496 + n = (n - 4503599627370496) + (E + 1) * 4503599627370496 := by rw [Nat.add_mul, Nat.one_mul]; omega
    have hlt : n - 4503599627370496 < 4503599627370496 := by omega
    have e1 : (E * 4503599627370496 + n) % 4503599627370496 + 4503599627370496 = n := by
      rw [e0, Nat.add_mul_mod_self_right, Nat.mod_eq_of_lt hlt]; omega
    have e2 : (E * 4503599627370496 + n) / 4503599627370496 - 1 = E := by
      rw [e0, Nat.add_mul_div_right _ _ (by decide : 0 < 4503599627370496), Nat.div_eq_of_lt hlt]; omega
    rw [e1, e2]
/-- each is such a one -/
theorem fbitsFl (b : Nat) : ∃ n E, b = E * 4503599627370496 + n ∧ n < 9007199254740992 ∧ (E = 0 ∨ 4503599627370496 ≤ n) ∧ fval b = n * 2 ^ E ∧ (E = b / 4503599627370496 - 1) := by
  by_cases hb : b < 4503599627370496
  · exact ⟨b, 0, by simp, by omega, .inl rfl, by have h := fval_of b 0 (by omega) (.inl rfl); rw [Nat.zero_mul, Nat.zero_add] at h; exact h, by omega⟩
  · have h1 := Nat.div_add_mod b 4503599627370496
    have h2 := Nat.mod_lt b (show 4503599627370496 > 0 by decide)
    have h3 : 1 ≤ b / 4503599627370496 := by omega
    have e : b = (b / 4503599627370496 - 1) * 4503599627370496 + (b % 4503599627370496 + 4503599627370496) := by
      obtain ⟨q, hq⟩ : ∃ q, b / 4503599627370496 = q + 1 := ⟨b / 4503599627370496 - 1, by omega⟩
      rw [hq] at h1 ⊢
      rw [Nat.add_sub_cancel]
      rw [Nat.mul_add, Nat.mul_one, Nat.mul_comm] at h1
      omega
    refine ⟨b % 4503599627370496 + 4503599627370496, b / 4503599627370496 - 1, e, by omega, .inr (by omega), ?_, rfl⟩
    conv => lhs; rw [e]
    rw [fval_of _ _ (by omega) (.inr (by omega))]
theorem fval_succ (b : Nat) : fval (b + 1) = fval b + 2 ^ (b / 4503599627370496 - 1) := by
  obtain ⟨n, E, hb, hn, hE, hv, he⟩ := fbitsFl b
  rw [hv, ← he]
  by_cases h : n + 1 < 9007199254740992
  · rw [show b + 1 = E * 4503599627370496 + (n + 1) by omega, fval_of (n + 1) E h (by omega), Nat.add_mul, Nat.one_mul]
  · have hn2 : n = 9007199254740991 := by omega
    have e : b + 1 = (E + 1) * 4503599627370496 + 4503599627370496 := by rw [Nat.add_mul, Nat.one_mul]; omega
    rw [e, fval_of 4503599627370496 (E + 1) (by decide) (.inr (Nat.le_refl _)), hn2, Nat.pow_succ]
    have : 4503599627370496 * (2 ^ E * 2) = 9007199254740992 * 2 ^ E := by
      rw [Nat.mul_comm (2 ^ E) 2, ← Nat.mul_assoc, Nat.mul_comm 4503599627370496 2]
    rw [this]
    have h3 : 9007199254740992 = 9007199254740991 + 1 := by decide
    conv => lhs; rw [h3]
    rw [Nat.add_mul, Nat.one_mul]
theorem fval_lt {a b : Nat} (h : a < b) : fval a < fval b := by
  induction b with
  | zero => omega
  | succ b ih =>
    have h1 := fval_succ b
    have h2 := Nat.two_pow_pos (b / 4503599627370496 - 1)
    rcases Nat.lt_or_ge a b with h3 | h3
    · have := ih h3; omega
    · have : a = b := by omega
      subst this; omega
theorem fval_le {a b : Nat} (h : a ≤ b) : fval a ≤ fval b := by
  rcases Nat.lt_or_ge a b with h1 | h1
  · exact Nat.le_of_lt (fval_lt h1)
  · rw [show a = b by omega]; exact Nat.le_refl _
/-- what lies between one and the next, times 2^1075 -/
def fmid (b : Nat) : Nat := fval b + fval (b + 1)
theorem fmid_lt {a b : Nat} (h : a < b) : fmid a < fmid b := by
  have h1 := fval_lt h
  have h2 := fval_lt (show a + 1 < b + 1 by omega)
  unfold fmid; omega
theorem fmid_le {a b : Nat} (h : a ≤ b) : fmid a ≤ fmid b := by
  rcases Nat.lt_or_ge a b with h1 | h1
  · exact Nat.le_of_lt (fmid_lt h1)
  · rw [show a = b by omega]; exact Nat.le_refl _
theorem fmid_of (n E : Nat) (h : n < 9007199254740992) (h2 : E = 0 ∨ 4503599627370496 ≤ n) : fmid (E * 4503599627370496 + n) = (2 * n + 1) * 2 ^ E := by
  obtain ⟨m, F, hb, hm, hF, hv, he⟩ := fbitsFl (E * 4503599627370496 + n)
  have e1 : E = (E * 4503599627370496 + n) / 4503599627370496 - 1 := by
    rcases h2 with rfl | h2
    · omega
    · have e0 : E * 4503599627370496 + n = (n - 4503599627370496) + (E + 1) * 4503599627370496 := by rw [Nat.add_mul, Nat.one_mul]; omega
      rw [e0, Nat.add_mul_div_right _ _ (by decide : 0 < 4503599627370496), Nat.div_eq_of_lt (by omega)]; omega
  unfold fmid
  rw [fval_succ, ← e1, fval_of n E h h2, Nat.add_mul, Nat.one_mul]
  have : 2 * n * 2 ^ E = n * 2 ^ E + n * 2 ^ E := by rw [Nat.mul_assoc, Nat.two_mul]
  omega
/-- below it -/
theorem fmid_below (n E : Nat) (h : n < 9007199254740992) (h2 : E = 0 ∨ 4503599627370496 ≤ n) (h3 : 0 < E * 4503599627370496 + n) : fmid (E * 4503599627370496 + n - 1) = if E = 0 ∨ 4503599627370496 < n then (2 * n - 1) * 2 ^ E else 18014398509481983 * 2 ^ (E - 1) := by
  by_cases hc : E = 0 ∨ 4503599627370496 < n
  · rw [if_pos hc]
    have hn : 0 < n := by
      rcases hc with rfl | hc
      · simpa using h3
      · omega
    have e : E * 4503599627370496 + n - 1 = E * 4503599627370496 + (n - 1) := by omega
    rw [e, fmid_of (n - 1) E (by omega) (by omega)]
    congr 1
    omega
  · rw [if_neg hc]
    have hE : E ≠ 0 := fun h => hc (.inl h)
    have hn : n = 4503599627370496 := by
      have := h2.resolve_left hE
      have : ¬ 4503599627370496 < n := fun h => hc (.inr h)
      omega
    subst hn
    obtain ⟨k, rfl⟩ : ∃ k, E = k + 1 := ⟨E - 1, by omega⟩
    have e : (k + 1) * 4503599627370496 + 4503599627370496 - 1 = k * 4503599627370496 + 9007199254740991 := by rw [Nat.add_mul, Nat.one_mul]; omega
    rw [e, fmid_of 9007199254740991 k (by decide) (.inr (by decide)), Nat.add_sub_cancel]

/-- b is nearest to Y / (2^1075 * D); of two as near the even one -/
structure Rnd (Y D b : Nat) : Prop where
  le : b ≤ 9218868437227405312
  lo : b = 0 ∨ D * fmid (b - 1) < Y ∨ (D * fmid (b - 1) = Y ∧ b % 2 = 0)
  hi : b = 9218868437227405312 ∨ Y < D * fmid b ∨ (Y = D * fmid b ∧ b % 2 = 0)

theorem Rnd.mono {Y D b Z C c : Nat} (h : Rnd Y D b) (g : Rnd Z C c) (hD : 0 < D) (hC : 0 < C) (hle : Y * C ≤ Z * D) : b ≤ c := by
  apply Classical.byContradiction
  intro hcb
  have hb0 : b ≠ 0 := by omega
  have hc0 : c ≠ 9218868437227405312 := by have := h.le; omega
  have h1 := h.lo.resolve_left hb0
  have g1 := g.hi.resolve_left hc0
  have hm := fmid_le (show c ≤ b - 1 by omega)
  have a1 : D * fmid (b - 1) ≤ Y := by omega
  have a2 : Z ≤ C * fmid c := by omega
  have b1 : D * fmid (b - 1) * C ≤ Y * C := Nat.mul_le_mul_right _ a1
  have b2 : Z * D ≤ C * fmid c * D := Nat.mul_le_mul_right _ a2
  have b3 : C * fmid c * D ≤ C * fmid (b - 1) * D := Nat.mul_le_mul_right _ (Nat.mul_le_mul_left _ hm)
  have e : D * fmid (b - 1) * C = C * fmid (b - 1) * D := by rw [Nat.mul_comm D, Nat.mul_comm C, Nat.mul_assoc, Nat.mul_assoc, Nat.mul_comm D C]
  have c1 : D * fmid (b - 1) * C = Y * C := by omega
  have c2 : Z * D = C * fmid c * D := by omega
  have c3 : C * fmid c * D = C * fmid (b - 1) * D := by omega
  have d1 := Nat.eq_of_mul_eq_mul_right hC c1
  have d2 := Nat.eq_of_mul_eq_mul_right hD c2
  have d3 := Nat.eq_of_mul_eq_mul_left hC (Nat.eq_of_mul_eq_mul_right hD c3)
  have p1 : b % 2 = 0 := by rcases h1 with h1 | h1; omega; exact h1.2
  have p2 : c % 2 = 0 := by rcases g1 with g1 | g1; omega; exact g1.2
  rcases Nat.lt_or_ge c (b - 1) with h5 | h5
  · have := fmid_lt h5; omega
  · omega
theorem Rnd.uniq {Y D b Z C c : Nat} (h : Rnd Y D b) (g : Rnd Z C c) (hD : 0 < D) (hC : 0 < C) (he : Y * C = Z * D) : b = c :=
  Nat.le_antisymm (h.mono g hD hC (Nat.le_of_eq he)) (g.mono h hC hD (Nat.le_of_eq he.symm))
theorem rnd_zero (D : Nat) (hD : 0 < D) : Rnd 0 D 0 := by
  refine ⟨by decide, .inl rfl, .inr (.inl ?_)⟩
  have : fmid 0 = 1 := by decide
  rw [this]; omega

/-- n is nearest to P / Q; of two as near the even one -/
structure Rhe (P Q n : Nat) : Prop where
  lo : n = 0 ∨ (2 * n - 1) * Q < 2 * P ∨ ((2 * n - 1) * Q = 2 * P ∧ n % 2 = 0)
  hi : 2 * P < (2 * n + 1) * Q ∨ (2 * P = (2 * n + 1) * Q ∧ n % 2 = 0)
/-- from the quotient and what is left -/
theorem rhe_of (P Q : Nat) (hQ : 0 < Q) : Rhe P Q (P / Q + if Q < 2 * (P % Q) ∨ (2 * (P % Q) = Q ∧ P / Q % 2 = 1) then 1 else 0) := by
  have h1 := Nat.div_add_mod P Q
  have h2 := Nat.mod_lt P hQ
  generalize P / Q = q at *
  generalize P % Q = r at *
  have e1 : 2 * P = 2 * q * Q + 2 * r := by rw [← h1, Nat.mul_add, ← Nat.mul_assoc, Nat.mul_assoc, Nat.mul_comm Q q, ← Nat.mul_assoc]
  by_cases hc : Q < 2 * r ∨ (2 * r = Q ∧ q % 2 = 1)
  · rw [if_pos hc]
    have e2 : (2 * (q + 1) - 1) * Q = 2 * q * Q + Q := by rw [show 2 * (q + 1) - 1 = 2 * q + 1 by omega, Nat.add_mul, Nat.one_mul]
    have e3 : (2 * (q + 1) + 1) * Q = 2 * q * Q + 3 * Q := by rw [show 2 * (q + 1) + 1 = 2 * q + 3 by omega, Nat.add_mul]
    refine ⟨.inr ?_, .inl ?_⟩
    · rw [e1, e2]
      rcases hc with hc | hc
      · left; omega
      · right; exact ⟨by omega, by omega⟩
    · rw [e1, e3]; omega
  · rw [if_neg hc, Nat.add_zero]
    have hc1 : 2 * r < Q ∨ (2 * r = Q ∧ q % 2 = 0) := by
      rcases Nat.lt_or_ge (2 * r) Q with h | h
      · exact .inl h
      · right
        have h5 : ¬ Q < 2 * r := fun h => hc (.inl h)
        have h6 : 2 * r = Q := by omega
        exact ⟨h6, by have : ¬ q % 2 = 1 := fun h => hc (.inr ⟨h6, h⟩); omega⟩
    have e3 : (2 * q + 1) * Q = 2 * q * Q + Q := by rw [Nat.add_mul, Nat.one_mul]
    refine ⟨?_, ?_⟩
    · rcases Nat.eq_zero_or_pos q with h0 | h0
      · exact .inl h0
      · right; left
        have e2 : (2 * q - 1) * Q + Q = 2 * q * Q := by
          obtain ⟨k, rfl⟩ : ∃ k, q = k + 1 := ⟨q - 1, by omega⟩
          rw [show 2 * (k + 1) - 1 = 2 * k + 1 by omega, show 2 * (k + 1) = 2 * k + 1 + 1 by omega, Nat.add_mul (2 * k + 1), Nat.one_mul]
        rw [e1]; omega
    · rw [e1, e3]
      rcases hc1 with h | h
      · left; omega
      · right; exact ⟨by omega, h.2⟩
/-- the same fraction, otherwise told -/
theorem Rhe.turn {P Q Y T n : Nat} (h : Rhe P Q n) (hQ : 0 < Q) (hT : 0 < T) (he : 2 * P * T = Y * Q) :
    (n = 0 ∨ (2 * n - 1) * T < Y ∨ ((2 * n - 1) * T = Y ∧ n % 2 = 0)) ∧ (Y < (2 * n + 1) * T ∨ (Y = (2 * n + 1) * T ∧ n % 2 = 0)) := by
  have turn : ∀ k, (k * Q < 2 * P → k * T < Y) ∧ (k * Q = 2 * P → k * T = Y) ∧ (2 * P < k * Q → Y < k * T) := by
    intro k
    have e : k * T * Q = k * Q * T := by rw [Nat.mul_assoc, Nat.mul_comm T, Nat.mul_assoc]
    refine ⟨fun h => ?_, fun h => ?_, fun h => ?_⟩
    · have := Nat.mul_lt_mul_of_pos_right h hT
      rw [he, ← e] at this
      exact Nat.lt_of_mul_lt_mul_right this
    · have := congrArg (fun x => x * T) h
      rw [he, ← e] at this
      exact Nat.eq_of_mul_eq_mul_right hQ this
    · have := Nat.mul_lt_mul_of_pos_right h hT
      rw [he, ← e] at this
      exact Nat.lt_of_mul_lt_mul_right this
  refine ⟨?_, ?_⟩
  · rcases h.lo with h1 | h1 | h1
    · exact .inl h1
    · exact .inr (.inl ((turn _).1 h1))
    · exact .inr (.inr ⟨(turn _).2.1 h1.1, h1.2⟩)
  · rcases h.hi with h1 | h1
    · exact .inl ((turn _).2.2 h1)
    · exact .inr ⟨((turn _).2.1 h1.1.symm).symm, h1.2⟩

theorem turn4 (K P D : Nat) : K * (D * (P * 2)) = 2 * (D * (K * P)) := by
  rw [Nat.mul_left_comm K D, ← Nat.mul_assoc K P 2, Nat.mul_comm (K * P) 2, Nat.mul_left_comm D 2]
/-- steps of 2^E: what was rounded to them is the nearest fraction -/
theorem near_law {Y D n E : Nat} (hD : 0 < D) (hn : n < 9007199254740992) (hE : E = 0 ∨ 4503599627370496 ≤ n) (hE2 : E ≤ 2048)
    (hlo : n = 0 ∨ (2 * n - 1) * (D * 2 ^ E) < Y ∨ ((2 * n - 1) * (D * 2 ^ E) = Y ∧ n % 2 = 0)) (hhi : Y < (2 * n + 1) * (D * 2 ^ E) ∨ (Y = (2 * n + 1) * (D * 2 ^ E) ∧ n % 2 = 0))
    (hq : E = 0 ∨ 18014398509481983 * (D * 2 ^ E) ≤ 2 * Y) : Rnd Y D (if 9218868437227405312 ≤ E * 4503599627370496 + n then 9218868437227405312 else E * 4503599627370496 + n) := by
  have em : ∀ k, D * (k * 2 ^ E) = k * (D * 2 ^ E) := fun k => by rw [← Nat.mul_assoc, Nat.mul_comm D k, Nat.mul_assoc]
  have hpar : (E * 4503599627370496 + n) % 2 = n % 2 := by omega
  have hlow : E * 4503599627370496 + n = 0 ∨ D * fmid (E * 4503599627370496 + n - 1) < Y ∨ (D * fmid (E * 4503599627370496 + n - 1) = Y ∧ (E * 4503599627370496 + n) % 2 = 0) := by
    rcases Nat.eq_zero_or_pos (E * 4503599627370496 + n) with h0 | h0
    · exact .inl h0
    · right
      rw [fmid_below n E hn hE h0, hpar]
      by_cases hc : E = 0 ∨ 4503599627370496 < n
      · rw [if_pos hc, em]
        rcases hlo with h1 | h1 | h1
        · exfalso
          rcases hc with h2 | h2
          · subst h1 h2; simp at h0
          · omega
        · exact .inl h1
        · exact .inr h1
      · rw [if_neg hc]
        have hE0 : E ≠ 0 := fun h => hc (.inl h)
        have hnF : n = 4503599627370496 := by
          have h5 : ¬ 4503599627370496 < n := fun h => hc (.inr h)
          have := hE.resolve_left hE0
          omega
        have h6 := hq.resolve_left hE0
        have hpe : n % 2 = 0 := by omega
        obtain ⟨K, hK⟩ : ∃ K : Nat, K = 18014398509481983 := ⟨_, rfl⟩
        rw [← hK] at h6 ⊢
        clear hK hlo hhi hq em hpar
        obtain ⟨k, rfl⟩ : ∃ k, E = k + 1 := ⟨E - 1, by omega⟩
        rw [Nat.add_sub_cancel]
        have e2 : K * (D * 2 ^ (k + 1)) = 2 * (D * (K * 2 ^ k)) := by
          rw [Nat.pow_succ]; exact turn4 _ _ _
        rw [e2] at h6
        have h7 : D * (K * 2 ^ k) ≤ Y := Nat.le_of_mul_le_mul_left h6 (by decide)
        exact (Nat.lt_or_eq_of_le h7).imp id (fun h => ⟨h, hpe⟩)
  by_cases hinf : 9218868437227405312 ≤ E * 4503599627370496 + n
  · rw [if_pos hinf]
    refine ⟨Nat.le_refl _, ?_, .inl rfl⟩
    right
    have h1 := hlow.resolve_left (by omega)
    rcases Nat.lt_or_ge 9218868437227405312 (E * 4503599627370496 + n) with h2 | h2
    · left
      have h3 : fmid (9218868437227405312 - 1) < fmid (E * 4503599627370496 + n - 1) := fmid_lt (by omega)
      have h4 := Nat.mul_lt_mul_of_pos_left h3 hD
      omega
    · have h3 : E * 4503599627370496 + n = 9218868437227405312 := by omega
      rw [h3] at h1
      exact h1
  · rw [if_neg hinf]
    refine ⟨by omega, hlow, .inr ?_⟩
    rw [fmid_of n E hn hE, em, hpar]
    exact hhi
end Go.Proofs.YtldhmfkojaekfaaGreatDoor
namespace Go.Proofs.YtldhmfkojaekfaaGreatDoor

/-- the number that the words tell -/
def bval : List Int → Nat
  | [] => 0
  | x :: l => x.toNat + 4294967296 * bval l
/-- words that are words -/
def Words (l : List Int) : Prop := ∀ x ∈ l, 0 ≤ x ∧ x < 4294967296
/-- the words of a number: none is a nought at the end -/
def canonF : Nat → Nat → List Int
  | 0, _ => []
  | f + 1, n => if n = 0 then [] else ((n % 4294967296 : Nat) : Int) :: canonF f (n / 4294967296)
def canon (n : Nat) : List Int := canonF n n

theorem canonF_fuel : ∀ (f g n : Nat), n ≤ f → n ≤ g → canonF f n = canonF g n
  | 0, 0, _, _, _ => rfl
  | 0, g + 1, n, h, _ => by have : n = 0 := by omega
                            subst this; simp [canonF]
  | f + 1, 0, n, _, h => by have : n = 0 := by omega
                            subst this; simp [canonF]
  | f + 1, g + 1, n, h1, h2 => by
    unfold canonF
    by_cases h : n = 0
    · simp [h]
    · rw [if_neg h, if_neg h, canonF_fuel f g (n / 4294967296) (by omega) (by omega)]
theorem canon_zero : canon 0 = [] := rfl
theorem canon_pos (n : Nat) (h : n ≠ 0) : canon n = ((n % 4294967296 : Nat) : Int) :: canon (n / 4294967296) := by
  unfold canon
  obtain ⟨m, rfl⟩ : ∃ m, n = m + 1 := ⟨n - 1, by omega⟩
  conv => lhs; unfold canonF
  rw [if_neg (by omega), canonF_fuel m ((m + 1) / 4294967296) _ (by omega) (Nat.le_refl _)]
theorem canon_words : ∀ (n : Nat), Words (canon n) := by
  intro n
  induction n using Nat.strongRecOn with
  | ind n ih =>
    by_cases h : n = 0
    · subst h; intro x hx; simp [canon_zero] at hx
    · rw [canon_pos n h]
      intro x hx
      rcases List.mem_cons.1 hx with rfl | hx
      · omega
      · exact ih _ (by omega) x hx
theorem bval_canon : ∀ (n : Nat), bval (canon n) = n := by
  intro n
  induction n using Nat.strongRecOn with
  | ind n ih =>
    by_cases h : n = 0
    · subst h; rfl
    · rw [canon_pos n h, bval, ih _ (by omega)]
      omega
theorem bval_append (a b : List Int) : bval (a ++ b) = bval a + 4294967296 ^ a.length * bval b := by
  induction a with
  | nil => simp [bval]
  | cons x a ih =>
    simp only [List.cons_append, bval, ih, List.length_cons, Nat.pow_succ]
    rw [Nat.mul_add, Nat.add_assoc, ← Nat.mul_assoc, Nat.mul_comm (4294967296 ^ a.length) 4294967296]
theorem bval_lt : ∀ (a : List Int), Words a → bval a < 4294967296 ^ a.length
  | [], _ => by simp [bval]
  | x :: a, h => by
    have h1 := h x (by simp)
    have h2 := bval_lt a (fun y hy => h y (by simp [hy]))
    simp only [bval, List.length_cons, Nat.pow_succ]
    omega
/-- words, of which the last is no nought, are those of their number -/
theorem canon_bval : ∀ (a : List Int), Words a → (∀ x, a.getLast? = some x → x ≠ 0) → canon (bval a) = a
  | [], _, _ => rfl
  | x :: a, h, hl => by
    have h1 := h x (by simp)
    have hw : Words a := fun y hy => h y (by simp [hy])
    have hl' : ∀ y, a.getLast? = some y → y ≠ 0 := by
      intro y hy
      refine hl y ?_
      cases a with
      | nil => simp at hy
      | cons z a => simpa [List.getLast?_cons_cons] using hy
    have ih := canon_bval a hw hl'
    have hne : bval (x :: a) ≠ 0 := by
      simp only [bval]
      intro h0
      have hx : x.toNat = 0 := by omega
      have ha : bval a = 0 := by omega
      rw [ha] at ih
      have : a = [] := by rw [← ih]; rfl
      subst this
      have := hl x (by simp)
      omega
    rw [canon_pos _ hne]
    simp only [bval]
    have e1 : (x.toNat + 4294967296 * bval a) % 4294967296 = x.toNat := by omega
    have e2 : (x.toNat + 4294967296 * bval a) / 4294967296 = bval a := by omega
    rw [e1, e2, ih]
    congr 1
    omega
/-- without noughts at the end -/
def trimTo : List Int → List Int
  | [] => []
  | x :: l => if trimTo l = [] ∧ x = 0 then [] else x :: trimTo l
theorem trimTo_canon : ∀ (a : List Int), Words a → trimTo a = canon (bval a)
  | [], _ => rfl
  | x :: a, h => by
    have h1 := h x (by simp)
    have ih := trimTo_canon a (fun y hy => h y (by simp [hy]))
    unfold trimTo
    rw [ih]
    simp only [bval]
    by_cases h0 : canon (bval a) = [] ∧ x = 0
    · rw [if_pos h0]
      have hb : bval a = 0 := by
        have := bval_canon (bval a)
        rw [h0.1] at this
        simpa [bval] using this.symm
      rw [hb, h0.2]; rfl
    · rw [if_neg h0]
      have hne : x.toNat + 4294967296 * bval a ≠ 0 := by
        intro h2
        apply h0
        have hb : bval a = 0 := by omega
        exact ⟨by rw [hb]; rfl, by omega⟩
      rw [canon_pos _ hne]
      have e1 : (x.toNat + 4294967296 * bval a) % 4294967296 = x.toNat := by omega
      have e2 : (x.toNat + 4294967296 * bval a) / 4294967296 = bval a := by omega
      rw [e1, e2]
      congr 1
      omega
theorem canon_inj {a b : Nat} (h : canon a = canon b) : a = b := by rw [← bval_canon a, h, bval_canon]
/-- how many words a number has -/
theorem canon_len_le (n k : Nat) (h : n < 4294967296 ^ k) : (canon n).length ≤ k := by
  induction k generalizing n with
  | zero => simp at h; subst h; simp [canon_zero]
  | succ k ih =>
    by_cases h0 : n = 0
    · subst h0; simp [canon_zero]
    · rw [canon_pos n h0, List.length_cons]
      have := ih (n / 4294967296) (by rw [Nat.pow_succ] at h; omega)
      omega
theorem canon_len_gt (n : Nat) (h : n ≠ 0) : 4294967296 ^ ((canon n).length - 1) ≤ n := by
  induction n using Nat.strongRecOn with
  | ind n ih =>
    rw [canon_pos n h, List.length_cons]
    by_cases h2 : n / 4294967296 = 0
    · rw [h2, canon_zero]; simp; omega
    · have h3 := ih (n / 4294967296) (by omega) h2
      have h4 : 0 < (canon (n / 4294967296)).length := by rw [canon_pos _ h2]; simp
      obtain ⟨m, hm⟩ : ∃ m, (canon (n / 4294967296)).length = m + 1 := ⟨_, (Nat.succ_pred_eq_of_pos h4).symm⟩
      rw [hm] at h3 ⊢
      simp only [Nat.add_sub_cancel] at h3 ⊢
      rw [Nat.pow_succ]
      omega
end Go.Proofs.YtldhmfkojaekfaaGreatDoor
