/-
  The contracts of tok.note and tok.next. Conditions: the text has fewer than 2^31 bytes and is not empty; a variable of the library's holds some integer.
-/
import Derived.Test.YtfjeikijmconoaaTok2
namespace Go.Proofs.Ytfjeikijmconoaa
open Go.RowKit Gx

/-- the library's variable internal/bytealg.MaxLen holds some integer -/
def MaxOk (w : World) : Prop := ∃ m : Int, w.cell? ⟨0, 0, none⟩ = some (.int .i64 m)
theorem MaxOk.keep {w w' : World} (h : MaxOk w) (hb : Below w.heap.size w w') : MaxOk w' := by
  obtain ⟨m, hm⟩ := h
  exact ⟨m, (hb.cell (p := ⟨0, 0, none⟩) (World.block_lt_of_cell? _ _ hm)).trans hm⟩

/-- how many bytes a note has, at the front; 0: there is none -/
def noteLen (l : List UInt8) : Nat :=
  if l.head? = some 35 then (Lib.cut l [10]).1.length
  else if Lib.hasPrefix l [47, 42] = true then (if Lib.index (l.drop 2) [42, 47] < 0 then 0 else (Lib.index (l.drop 2) [42, 47]).toNat + 4) else 0

def IntsPost (n : Int) (w : World) (e : Ending) (w' : World) : Prop := e = .returned (.int .i64 n) ∧ Below w.heap.size w w'

theorem cut_len (l sep : List UInt8) : (Lib.cut l sep).1.length ≤ l.length := by
  unfold Lib.cut
  split
  · simp; omega
  · exact Nat.le_refl _
theorem index_cons (b : UInt8) (l sub : List UInt8) : Lib.index (b :: l) sub = if sub.isPrefixOf (b :: l) then 0 else if Lib.index l sub == -1 then -1 else Lib.index l sub + 1 := rfl
theorem index_le (l sub : List UInt8) : Lib.index l sub ≤ l.length := by
  induction l with
  | nil => unfold Lib.index; split <;> simp
  | cons b l ih =>
    rw [index_cons]
    split
    · simp only [List.length_cons]; omega
    · split
      · simp only [List.length_cons]; omega
      · simp only [List.length_cons]; omega

set_option maxHeartbeats 1000000 in
theorem note_any (s : ByteArray) (w : World) (hm : MaxOk w) (h0 : 0 < s.size) (hs : s.size ≤ 2147483648) :
    Calls Try.prog 23 #[.string s] w (IntsPost (noteLen s.data.toList) w) := by
  have hhd : s.data.toList.head? = some (s[0]'h0) := by
    have h : 0 < s.data.toList.length := by simpa using h0
    rw [List.head?_eq_getElem?, List.getElem?_eq_getElem h]; rfl
  obtain ⟨m, hm⟩ := hm
  have HC := Lib.hid (Try.strings_Cut s ⟨#[10]⟩ m w (by omega) hm)
  have HP := Lib.hid (Try.strings_HasPrefix s ⟨#[47, 42]⟩ w)
  have hcut := cut_len s.data.toList [10]
  obtain ⟨c, hc⟩ : ∃ c, c = s[0]'h0 := ⟨_, rfl⟩
  have hcs : ((s[0]'h0).toNat : Int) = (c.toNat : Int) := by rw [hc]
  rw [← hc] at hhd
  clear hc
  by_cases h35 : c = 35
  · have t1 : ((s[0].toNat : Int) == 35) = true := by rw [hcs, h35]; rfl
    have HV : Hid (noteLen s.data.toList = (Lib.cut s.data.toList [10]).1.length) := by show _ = _; unfold noteLen; rw [hhd, h35, if_pos rfl]
    clear hcs hhd h35 hcut HP hm
    go_enter Try.func23, Try.ntmps23
    go_wp2_with fail
    refine HC.out.mono ?_
    rintro e w' ⟨rfl, nq, rfl⟩
    go_wp2
    go_ret
    exact ⟨by rw [HV.out]; rfl, Gx.drewN_below _ _ _⟩
  · have t1 : ((s[0].toNat : Int) == 35) = false := by rw [hcs, u8_beq c 35 35 rfl]; simpa using h35
    by_cases hp : Lib.hasPrefix s.data.toList [47, 42] = true
    · have h2 : 2 ≤ s.size := by
        have h3 : ([47, 42] : List UInt8).isPrefixOf s.data.toList = true := hp
        rw [List.isPrefixOf_iff_prefix] at h3
        have := h3.length_le
        simpa using this
      have hex : (s.extract 2 s.size).data.toList = s.data.toList.drop 2 := Lib.extract_to_end s 2
      have HI := Lib.hid (Try.strings_Index (s.extract 2 s.size) ⟨#[42, 47]⟩ m w (by simp; omega) hm)
      rw [hex] at HI
      have hil := index_le (s.data.toList.drop 2) [42, 47]
      have hig := Lib.index_ge (s.data.toList.drop 2) [42, 47]
      simp only [List.length_drop, Array.length_toList] at hil
      have hsz : s.data.size = s.size := rfl
      rw [hsz] at hil
      have HV : Hid (noteLen s.data.toList = if Lib.index (s.data.toList.drop 2) [42, 47] < 0 then 0 else (Lib.index (s.data.toList.drop 2) [42, 47]).toNat + 4) := by
        show _ = _; unfold noteLen; rw [hhd, if_neg (by simpa using h35), if_pos hp]
      have hpe : Lib.hasPrefix s.data.toList [47, 42] = true := hp
      rw [show (⟨#[47, 42]⟩ : ByteArray).data.toList = [47, 42] from rfl, hp] at HP
      rw [show (⟨#[42, 47]⟩ : ByteArray).data.toList = [42, 47] from rfl] at HI
      obtain ⟨x, hx⟩ : ∃ x, x = Lib.index (s.data.toList.drop 2) [42, 47] := ⟨_, rfl⟩
      rw [← hx] at HI hil hig HV
      clear hcs hhd h35 hcut HC hm hp hpe hx hex hsz
      by_cases hx0 : x < 0
      · have d1 : decide (x < 0) = true := decide_eq_true hx0
        rw [if_pos hx0] at HV
        go_enter Try.func23, Try.ntmps23
        go_wp2_with fail
        refine HP.out.mono ?_
        rintro e w' ⟨rfl, rfl⟩
        go_wp2_with fail
        refine HI.out.mono ?_
        rintro e w' ⟨rfl, rfl⟩
        go_wp2_with fail
        go_ret
        exact ⟨by rw [HV.out]; rfl, Below.refl _ _⟩
      · have d1 : decide (x < 0) = false := decide_eq_false hx0
        rw [if_neg hx0] at HV
        go_enter Try.func23, Try.ntmps23
        go_wp2_with fail
        refine HP.out.mono ?_
        rintro e w' ⟨rfl, rfl⟩
        go_wp2_with fail
        refine HI.out.mono ?_
        rintro e w' ⟨rfl, rfl⟩
        go_wp2_with fail
        go_ret
        refine ⟨?_, Below.refl _ _⟩
        rw [HV.out, show ((x.toNat + 4 : Nat) : Int) = x + 4 by omega]; rfl
    · have HV : Hid (noteLen s.data.toList = 0) := by
        show _ = _; unfold noteLen; rw [hhd, if_neg (by simpa using h35), if_neg hp]
      have hp' : Lib.hasPrefix s.data.toList [47, 42] = false := by simpa using hp
      rw [show (⟨#[47, 42]⟩ : ByteArray).data.toList = [47, 42] from rfl, hp'] at HP
      clear hcs hhd h35 hcut HC hm hp hp'
      go_enter Try.func23, Try.ntmps23
      go_wp2_with fail
      refine HP.out.mono ?_
      rintro e w' ⟨rfl, rfl⟩
      go_wp2_with fail
      go_ret
      exact ⟨by rw [HV.out]; rfl, Below.refl _ _⟩

/-- how many bytes at the front are of a class -/
def runLen (k : Int) (l : List UInt8) : Nat := (l.takeWhile (fun b => decide (classOf (b.toNat : Int) = k))).length
/-- the token at the front: its kind, and its bytes -/
def nextTok (l : List UInt8) : Int × Nat :=
  match l with
  | [] => (0, 0)
  | b :: r =>
    let k := classOf (b.toNat : Int)
    if k = 1 ∨ k = 4 then (k, 1 + runLen k r)
    else if k = 3 then (if noteLen (b :: r) = 0 then (7, 1) else (3, noteLen (b :: r)))
    else if k = 5 then (if textLen (b :: r) = 0 then (7, 1) else (5, textLen (b :: r)))
    else (k, 1)

def NextPost (t : Int × Nat) (w : World) (e : Ending) (w' : World) : Prop := e = .returned (.tuple #[.int .i64 t.1, .int .i64 t.2]) ∧ Below w.heap.size w w'

theorem runLen_cons (k : Int) (b : UInt8) (r : List UInt8) : runLen k (b :: r) = if classOf (b.toNat : Int) = k then 1 + runLen k r else 0 := by
  unfold runLen
  rw [List.takeWhile_cons]
  by_cases h : classOf (b.toNat : Int) = k
  · simp [h]; omega
  · simp [h]

set_option maxHeartbeats 2000000 in
theorem next_any (s : ByteArray) (w : World) (hm : MaxOk w) (h0 : 0 < s.size) (hs : s.size ≤ 2147483648) :
    Calls Try.prog 17 #[.string s] w (NextPost (nextTok s.data.toList) w) := by
  have hlen : s.data.toList.length = s.size := Array.length_toList
  obtain ⟨b, r, hbr⟩ : ∃ b r, s.data.toList = b :: r := by
    cases h : s.data.toList with
    | nil => rw [h] at hlen; simp at hlen; omega
    | cons b r => exact ⟨b, r, rfl⟩
  have hb : s[0]'h0 = b := by
    have h1 : s.data.toList.head? = some b := by rw [hbr]; rfl
    have h2 : 0 < s.data.toList.length := by omega
    have h3 : s.data.toList.head? = some (s[0]'h0) := by
      rw [List.head?_eq_getElem?, List.getElem?_eq_getElem h2]; rfl
    rw [h3] at h1
    simpa using h1
  have hbc : ((s[0]'h0).toNat : Int) = (b.toNat : Int) := by rw [hb]
  have hb255 : (b.toNat : Int) ≤ 255 := by have := b.toNat_lt; omega
  have HCL := Lib.hid (class_any (b.toNat : Int) w (by omega) hb255)
  have HNote := Lib.hid (note_any s w hm h0 hs)
  have HText := Lib.hid (text_any s w h0 hs)
  have HLEN := Lib.hid hlen
  have HBR := Lib.hid hbr
  unfold ClassPost at HCL
  have HNT : Hid (nextTok s.data.toList = if classOf (b.toNat : Int) = 1 ∨ classOf (b.toNat : Int) = 4 then (classOf (b.toNat : Int), 1 + runLen (classOf (b.toNat : Int)) r)
    else if classOf (b.toNat : Int) = 3 then (if noteLen s.data.toList = 0 then (7, 1) else (3, noteLen s.data.toList))
    else if classOf (b.toNat : Int) = 5 then (if textLen s.data.toList = 0 then (7, 1) else (5, textLen s.data.toList)) else (classOf (b.toNat : Int), 1)) := by
    show _ = _
    rw [hbr]; rfl
  obtain ⟨k, hk⟩ : ∃ k, k = classOf (b.toNat : Int) := ⟨_, rfl⟩
  rw [← hk] at HCL HNT
  have HK := Lib.hid hk
  clear hlen hbr hb hk
  by_cases hrun : k = 1 ∨ k = 4
  · have HNT2 : Hid (nextTok s.data.toList = (k, 1 + runLen k r)) := by show _ = _; rw [HNT.out, if_pos hrun]
    clear HNT HNote HText
    have hdrop : s.data.toList.drop 1 = r := by rw [HBR.out]; rfl
    have HD := Lib.hid hdrop
    clear hdrop
    rcases hrun with rfl | rfl
    · go_enter Try.func17, Try.ntmps17
      go_wp2_with fail
      refine HCL.out.mono ?_
      rintro e w' ⟨rfl, rfl⟩
      clear HCL
      go_wp2_with fail
      go_loop [3] (fun i => ∃ n : Nat, 1 ≤ n ∧ n ≤ s.size ∧ i = .int .i64 n ∧ Hid (1 + runLen 1 r = n + runLen 1 (s.data.toList.drop n))) (fun i => s.size - (intOf i).toNat)
      case atStart => exact ⟨1, by omega, by omega, rfl, by show _ = _; rw [HD.out]⟩
      case round =>
        obtain ⟨n, hn1, hn, rfl, hrl⟩ := hrel
        by_cases hlt : n < s.size
        · have hlt' : n < s.data.toList.length := by rw [HLEN.out]; exact hlt
          obtain ⟨c, hc⟩ : ∃ c, c = s[n]'hlt := ⟨_, rfl⟩
          have eb : s.data.toList[n] = c := hc.symm
          have hrl2 := hrl.out
          rw [drop_cons _ n hlt', runLen_cons, eb] at hrl2
          have hcs : ((s[n]'hlt).toNat : Int) = (c.toNat : Int) := by rw [hc]
          have hc255 : (c.toNat : Int) ≤ 255 := by have := c.toNat_lt; omega
          have HC2 := Lib.hid (class_any (c.toNat : Int) w (by omega) hc255)
          unfold ClassPost at HC2
          clear hc eb hrl hlt'
          by_cases hq : classOf (c.toNat : Int) = 1
          · rw [if_pos hq] at hrl2
            rw [hq] at HC2
            have HR := Lib.hid hrl2
            clear hrl2 hq
            go_wp2_with fail
            refine HC2.out.mono ?_
            rintro e w' ⟨rfl, rfl⟩
            go_wp2_with fail
            go_round
            case rel => exact ⟨n + 1, by omega, by omega, by go_num, by show _ = _; rw [HR.out]; omega⟩
            case measure => simp [intOf]; omega
          · rw [if_neg hq] at hrl2
            obtain ⟨q, hqe⟩ : ∃ q, q = classOf (c.toNat : Int) := ⟨_, rfl⟩
            rw [← hqe] at HC2 hq
            have hqb : (q == 1) = false := by simpa using hq
            have HR := Lib.hid hrl2
            clear hrl2 hqe hq
            go_wp2_with fail
            refine HC2.out.mono ?_
            rintro e w' ⟨rfl, rfl⟩
            go_wp2_with fail
            go_ret2
            refine ⟨?_, Below.refl _ _⟩
            rw [HNT2.out]
            simp only [HR.out, Nat.add_zero]
            rfl
        · obtain rfl : n = s.size := by omega
          have hrl2 := hrl.out
          rw [List.drop_eq_nil_of_le (by rw [HLEN.out]; exact Nat.le_refl _)] at hrl2
          have HR : Hid (1 + runLen 1 r = s.size) := hrl2
          clear hrl hrl2
          go_wp2_with fail
          go_ret2
          refine ⟨?_, Below.refl _ _⟩
          rw [HNT2.out]
          simp only [HR.out]
          rfl
    · go_enter Try.func17, Try.ntmps17
      go_wp2_with fail
      refine HCL.out.mono ?_
      rintro e w' ⟨rfl, rfl⟩
      clear HCL
      go_wp2_with fail
      go_loop [3] (fun i => ∃ n : Nat, 1 ≤ n ∧ n ≤ s.size ∧ i = .int .i64 n ∧ Hid (1 + runLen 4 r = n + runLen 4 (s.data.toList.drop n))) (fun i => s.size - (intOf i).toNat)
      case atStart => exact ⟨1, by omega, by omega, rfl, by show _ = _; rw [HD.out]⟩
      case round =>
        obtain ⟨n, hn1, hn, rfl, hrl⟩ := hrel
        by_cases hlt : n < s.size
        · have hlt' : n < s.data.toList.length := by rw [HLEN.out]; exact hlt
          obtain ⟨c, hc⟩ : ∃ c, c = s[n]'hlt := ⟨_, rfl⟩
          have eb : s.data.toList[n] = c := hc.symm
          have hrl2 := hrl.out
          rw [drop_cons _ n hlt', runLen_cons, eb] at hrl2
          have hcs : ((s[n]'hlt).toNat : Int) = (c.toNat : Int) := by rw [hc]
          have hc255 : (c.toNat : Int) ≤ 255 := by have := c.toNat_lt; omega
          have HC2 := Lib.hid (class_any (c.toNat : Int) w (by omega) hc255)
          unfold ClassPost at HC2
          clear hc eb hrl hlt'
          by_cases hq : classOf (c.toNat : Int) = 4
          · rw [if_pos hq] at hrl2
            rw [hq] at HC2
            have HR := Lib.hid hrl2
            clear hrl2 hq
            go_wp2_with fail
            refine HC2.out.mono ?_
            rintro e w' ⟨rfl, rfl⟩
            go_wp2_with fail
            go_round
            case rel => exact ⟨n + 1, by omega, by omega, by go_num, by show _ = _; rw [HR.out]; omega⟩
            case measure => simp [intOf]; omega
          · rw [if_neg hq] at hrl2
            obtain ⟨q, hqe⟩ : ∃ q, q = classOf (c.toNat : Int) := ⟨_, rfl⟩
            rw [← hqe] at HC2 hq
            have hqb : (q == 4) = false := by simpa using hq
            have HR := Lib.hid hrl2
            clear hrl2 hqe hq
            go_wp2_with fail
            refine HC2.out.mono ?_
            rintro e w' ⟨rfl, rfl⟩
            go_wp2_with fail
            go_ret2
            refine ⟨?_, Below.refl _ _⟩
            rw [HNT2.out]
            simp only [HR.out, Nat.add_zero]
            rfl
        · obtain rfl : n = s.size := by omega
          have hrl2 := hrl.out
          rw [List.drop_eq_nil_of_le (by rw [HLEN.out]; exact Nat.le_refl _)] at hrl2
          have HR : Hid (1 + runLen 4 r = s.size) := hrl2
          clear hrl hrl2
          go_wp2_with fail
          go_ret2
          refine ⟨?_, Below.refl _ _⟩
          rw [HNT2.out]
          simp only [HR.out]
          rfl
  · have k1 : (k == 1) = false := by rw [beq_eq_false_iff_ne]; omega
    have k4 : (k == 4) = false := by rw [beq_eq_false_iff_ne]; omega
    rw [if_neg hrun] at HNT
    by_cases h3 : k = 3
    · subst h3
      rw [if_pos rfl] at HNT
      obtain ⟨n, hn⟩ : ∃ n, n = noteLen s.data.toList := ⟨_, rfl⟩
      rw [← hn] at HNT HNote
      clear hn HText k1 k4 hrun
      by_cases hz : n = 0
      · subst hz
        rw [if_pos rfl] at HNT
        go_enter Try.func17, Try.ntmps17
        go_wp2_with fail
        refine HCL.out.mono ?_
        rintro e w' ⟨rfl, rfl⟩
        go_wp2_with fail
        refine HNote.out.mono ?_
        rintro e w' ⟨rfl, hb⟩
        go_wp2_with fail
        go_ret2
        exact ⟨by rw [HNT.out]; rfl, hb⟩
      · rw [if_neg hz] at HNT
        have hz' : ((n : Int) == 0) = false := by rw [beq_eq_false_iff_ne]; omega
        go_enter Try.func17, Try.ntmps17
        go_wp2_with fail
        refine HCL.out.mono ?_
        rintro e w' ⟨rfl, rfl⟩
        go_wp2_with fail
        refine HNote.out.mono ?_
        rintro e w' ⟨rfl, hb⟩
        go_wp2_with fail
        go_ret2
        exact ⟨by rw [HNT.out]; rfl, hb⟩
    rw [if_neg h3] at HNT
    have k3 : (k == 3) = false := by simpa using h3
    by_cases h5 : k = 5
    · subst h5
      rw [if_pos rfl] at HNT
      obtain ⟨n, hn⟩ : ∃ n, n = textLen s.data.toList := ⟨_, rfl⟩
      rw [← hn] at HNT HText
      clear hn HNote k1 k4 k3 h3 hrun
      by_cases hz : n = 0
      · subst hz
        rw [if_pos rfl] at HNT
        go_enter Try.func17, Try.ntmps17
        go_wp2_with fail
        refine HCL.out.mono ?_
        rintro e w' ⟨rfl, rfl⟩
        go_wp2_with fail
        refine HText.out.mono ?_
        rintro e w' ⟨rfl, rfl⟩
        go_wp2_with fail
        go_ret2
        exact ⟨by rw [HNT.out]; rfl, Below.refl _ _⟩
      · rw [if_neg hz] at HNT
        have hz' : ((n : Int) == 0) = false := by rw [beq_eq_false_iff_ne]; omega
        go_enter Try.func17, Try.ntmps17
        go_wp2_with fail
        refine HCL.out.mono ?_
        rintro e w' ⟨rfl, rfl⟩
        go_wp2_with fail
        refine HText.out.mono ?_
        rintro e w' ⟨rfl, rfl⟩
        go_wp2_with fail
        go_ret2
        exact ⟨by rw [HNT.out]; rfl, Below.refl _ _⟩
    rw [if_neg h5] at HNT
    have k5 : (k == 5) = false := by simpa using h5
    clear HText HNote hrun h3 h5
    go_enter Try.func17, Try.ntmps17
    go_wp2_with fail
    refine HCL.out.mono ?_
    rintro e w' ⟨rfl, rfl⟩
    go_wp2_with fail
    go_ret2
    exact ⟨by rw [HNT.out]; rfl, Below.refl _ _⟩
end Go.Proofs.Ytfjeikijmconoaa
