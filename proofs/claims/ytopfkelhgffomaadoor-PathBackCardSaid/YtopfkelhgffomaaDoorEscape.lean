/-
  The contracts of strconv.ParseUint at base 16, 32 bits, and of esc.escape. Condition: the variable strconv.ErrSyntax holds an interface value; the text has at most 2^48 bytes.
-/
import Derived.Test.YtopfkelhgffomaaDoorParseU
import Derived.Test.YtopfkelhgffomaaDoorEscLaw
import Derived.Test.YtopfkelhgffomaaDoorStrBits
import Derived.Test.YtopfkelhgffomaaDoorUtf1
import Derived.Test.YtopfkelhgffomaaDoorShelf
namespace Go.Proofs.YtopfkelhgffomaaDoor
open Go.RowKit Gx
set_option maxRecDepth 100000

def ErrVar (w : World) : Prop := ∃ te pe, w.cell? ⟨1, 0, none⟩ = some (.iface te pe)
theorem ErrVar.keep {w w' : World} (h : ErrVar w) (hb : Below w.heap.size w w') : ErrVar w' := by
  obtain ⟨te, pe, h⟩ := h
  exact ⟨te, pe, (hb.cell (World.block_lt_of_cell? w _ h)).trans h⟩
def PUPost (l : List UInt8) (w : World) (e : Ending) (w' : World) : Prop :=
  (∃ v : Nat, hexVal l 0 = some v ∧ e = .returned (.tuple #[.int .u64 v, .nilIface]) ∧ Below w.heap.size w w') ∨
  (hexVal l 0 = none ∧ ∃ N, e = .returned (.tuple #[.int .u64 0, .iface 80 (.pointer (some ⟨N, 0, none⟩))]) ∧ Below w.heap.size w w')
set_option maxHeartbeats 1000000 in
theorem parseUint_any (s : ByteArray) (w : World) (h1 : 1 ≤ s.size) (h6 : s.size ≤ 6) (hE : ErrVar w) : Calls Tryd.prog 49 #[.string s, .int .i64 16, .int .i64 32] w (PUPost s.data.toList w) := by
  have hP := parseU_any s w h1 h6
  unfold ParseUPost at hP
  have HP := Lib.hid hP
  have HYES := Lib.hid (fun (v : Nat) w' (h : hexVal s.data.toList 0 = some v) (hb : Below w.heap.size w w') => (show PUPost s.data.toList w (.returned (.tuple #[.int .u64 v, .nilIface])) w' from .inl ⟨v, h, rfl, hb⟩))
  have HNO := Lib.hid (fun N w' (h : hexVal s.data.toList 0 = none) (hb : Below w.heap.size w w') => (show PUPost s.data.toList w (.returned (.tuple #[.int .u64 0, .iface 80 (.pointer (some ⟨N, 0, none⟩))])) w' from .inr ⟨h, N, rfl, hb⟩))
  have HE := Lib.hid hE
  generalize PUPost s.data.toList w = POST at *
  generalize hexVal s.data.toList 0 = HV at *
  clear hP hE
  go_enter Tryd.func49, Tryd.ntmps49
  go_wp2_with fail
  refine HP.out.mono ?_
  rintro e0 w1 (⟨v, hv, rfl, hb⟩ | ⟨hv, rfl, hb⟩)
  · have N := Lib.hid (HYES.out v w1 hv hb)
    clear hv hb
    go_wp2_with fail
    try go_ret2
    exact N.out
  · obtain ⟨te, pe, hc⟩ := HE.out.keep hb
    have HTE := Lib.hid (Tryd.strconv_toError_syntax ⟨#[80, 97, 114, 115, 101, 85, 105, 110, 116]⟩ s 16 32 (.iface te pe) w1 (by omega) hc (.inr ⟨te, pe, rfl⟩))
    have HV := Lib.hid hv
    have B1 := Lib.hid hb
    clear hv hb hc
    go_wp2_with fail
    refine HTE.out.mono ?_
    rintro e0 w2 ⟨N, rfl, -, -, hb2⟩
    have NN := Lib.hid (HNO.out N w2 HV.out (B1.out.trans (hb2.mono B1.out.size)))
    clear hb2
    go_wp2_with fail
    try go_ret2
    exact NN.out

def EscPost (l : List UInt8) (w : World) (e : Ending) (w' : World) : Prop :=
  (∃ (r : Int) (n : Nat), escOf l = some (r, n) ∧ e = .returned (.tuple #[.int .i32 r, .int .i64 n, .int .i64 0]) ∧ Below w.heap.size w w') ∨
  (escOf l = none ∧ ∃ c : Int, c ≠ 0 ∧ e = .returned (.tuple #[.int .i32 0, .int .i64 0, .int .i64 c]) ∧ Below w.heap.size w w')

theorem escOf_cons (c : UInt8) (t : List UInt8) : escOf (c :: t) = if c = 34 ∨ c = 92 ∨ c = 47 then some ((c.toNat : Int), 1)
    else if c = 110 then some (10, 1) else if c = 116 then some (9, 1) else if c = 114 then some (13, 1) else uOf (c :: t) := rfl
theorem uOf_bad (s : List UInt8) (h : Lib.hasPrefix s [117, 123] = false ∨ Lib.indexByte (s.drop 2) 125 < 1 ∨ 6 < Lib.indexByte (s.drop 2) 125) : uOf s = none := by
  unfold uOf
  split
  · rename_i hp
    rcases h with h | h
    · rw [h] at hp; cases hp
    · rw [if_pos h]
  · rfl
theorem uOf_hex (s : List UInt8) (k : Nat) (h : Lib.hasPrefix s [117, 123] = true) (hk : Lib.indexByte (s.drop 2) 125 = (k : Int)) (h1 : 1 ≤ k) (h6 : k ≤ 6) : uOf s = match hexVal ((s.drop 2).take k) 0 with
      | none => none
      | some n => if good (n : Int) = true then some ((n : Int), 3 + k) else none := by
  unfold uOf
  rw [if_pos h, hk, Int.toNat_natCast, if_neg (by omega)]
  rfl
theorem runeSize_iff (r : Int) : (runeSize r == 0) = !good r := by
  unfold runeSize
  cases hg : good r with
  | false => rfl
  | true =>
    rw [if_pos rfl]
    split
    · rfl
    split
    · rfl
    split <;> rfl

set_option maxHeartbeats 4000000 in
theorem escape_any (s : ByteArray) (w : World) (hs : s.size ≤ 281474976710656) (hE : ErrVar w) : Calls Tryd.prog 31 #[.string s] w (EscPost s.data.toList w) := by
  have HYES := Lib.hid (fun (r : Int) (n : Nat) w' (h : escOf s.data.toList = some (r, n)) (hb : Below w.heap.size w w') => (show EscPost s.data.toList w (.returned (.tuple #[.int .i32 r, .int .i64 n, .int .i64 0])) w' from .inl ⟨r, n, h, rfl, hb⟩))
  have HNO := Lib.hid (fun (c : Int) w' (hc : c ≠ 0) (h : escOf s.data.toList = none) (hb : Below w.heap.size w w') => (show EscPost s.data.toList w (.returned (.tuple #[.int .i32 0, .int .i64 0, .int .i64 c])) w' from .inr ⟨h, c, hc, rfl, hb⟩))
  have HE := Lib.hid hE
  clear hE
  generalize EscPost s.data.toList w = POST at *
  rcases Nat.eq_zero_or_pos s.size with zs | ps
  · obtain rfl := bytes_nil zs
    have N := Lib.hid (HNO.out 4 w (by decide) rfl (Below.refl _ _))
    clear zs HNO HYES
    go_enter Tryd.func31, Tryd.ntmps31
    go_wp2_with fail
    try go_ret3
    exact N.out
  obtain ⟨em1, em2⟩ := bytes_em ps
  have hcons := cons_of s ps
  have hesc := escOf_cons s[0] (s.data.toList.drop 1)
  rw [← hcons] at hesc
  generalize escOf s.data.toList = EV at *
  have p1 : (0 : Int) < (s.size : Int) := by omega
  have hx := UInt8.toNat_lt s[0]
  by_cases c1 : s[0] = 34 ∨ s[0] = 92 ∨ s[0] = 47
  · rw [if_pos c1] at hesc
    have N := Lib.hid (HYES.out _ _ w hesc (Below.refl _ _))
    have hw : IntKind.i32.wrap (s[0].toNat : Int) = (s[0].toNat : Int) := by rw [IntKind.wrap_i32]; omega
    rcases c1 with h | h | h
    · have y1 := (byte_y s[0] 34 34 rfl h).1
      clear hesc hcons h
      go_enter Tryd.func31, Tryd.ntmps31
      go_wp2_with fail
      try go_ret3
      exact N.out
    · have n1 := (byte_n s[0] 34 34 rfl (by rw [h]; decide)).1
      have y1 := (byte_y s[0] 92 92 rfl h).1
      clear hesc hcons h
      go_enter Tryd.func31, Tryd.ntmps31
      go_wp2_with fail
      try go_ret3
      exact N.out
    · have n1 := (byte_n s[0] 34 34 rfl (by rw [h]; decide)).1
      have n2 := (byte_n s[0] 92 92 rfl (by rw [h]; decide)).1
      have y1 := (byte_y s[0] 47 47 rfl h).1
      clear hesc hcons h
      go_enter Tryd.func31, Tryd.ntmps31
      go_wp2_with fail
      try go_ret3
      exact N.out
  rw [if_neg c1] at hesc
  have n1 := (byte_n s[0] 34 34 rfl (fun h => c1 (.inl h))).1
  have n2 := (byte_n s[0] 92 92 rfl (fun h => c1 (.inr (.inl h)))).1
  have n3 := (byte_n s[0] 47 47 rfl (fun h => c1 (.inr (.inr h)))).1
  by_cases c110 : s[0] = 110
  · rw [if_pos c110] at hesc
    have N := Lib.hid (HYES.out _ _ w hesc (Below.refl _ _))
    have y1 := (byte_y s[0] 110 110 rfl c110).1
    clear hesc hcons c1 c110
    go_enter Tryd.func31, Tryd.ntmps31
    go_wp2_with fail
    try go_ret3
    exact N.out
  rw [if_neg c110] at hesc
  have n4 := (byte_n s[0] 110 110 rfl c110).1
  by_cases c116 : s[0] = 116
  · rw [if_pos c116] at hesc
    have N := Lib.hid (HYES.out _ _ w hesc (Below.refl _ _))
    have y1 := (byte_y s[0] 116 116 rfl c116).1
    clear hesc hcons c1 c116
    go_enter Tryd.func31, Tryd.ntmps31
    go_wp2_with fail
    try go_ret3
    exact N.out
  rw [if_neg c116] at hesc
  have n5 := (byte_n s[0] 116 116 rfl c116).1
  by_cases c114 : s[0] = 114
  · rw [if_pos c114] at hesc
    have N := Lib.hid (HYES.out _ _ w hesc (Below.refl _ _))
    have y1 := (byte_y s[0] 114 114 rfl c114).1
    clear hesc hcons c1 c114
    go_enter Tryd.func31, Tryd.ntmps31
    go_wp2_with fail
    try go_ret3
    exact N.out
  rw [if_neg c114] at hesc
  have n6 := (byte_n s[0] 114 114 rfl c114).1
  have HCP := Tryd.strings_CutPrefix s ⟨#[117, 123]⟩ w
  have eu : (⟨#[117, 123]⟩ : ByteArray).data.toList = [117, 123] := rfl
  rw [eu] at HCP
  clear c1 c110 c116 c114 hcons eu
  cases hp : Lib.hasPrefix s.data.toList [117, 123] with
  | false =>
    have hbad := uOf_bad s.data.toList (.inl hp)
    rw [hbad] at hesc
    have N := Lib.hid (HNO.out 4 w (by decide) hesc (Below.refl _ _))
    rw [hp] at HCP
    obtain ⟨D, hD⟩ : ∃ D : ByteArray, D = ⟨(Lib.trimPrefix s.data.toList [117, 123]).toArray⟩ := ⟨_, rfl⟩
    rw [← hD] at HCP
    have HC := Lib.hid HCP
    have HI := Lib.hid (fun w0 => Tryd.strings_IndexByte D 125 w0)
    clear hesc HCP hbad hD hp HYES HNO
    go_enter Tryd.func31, Tryd.ntmps31
    go_wp2_with fail
    refine HC.out.mono ?_
    rintro e0 w1 ⟨rfl, rfl⟩
    go_wp2_with fail
    refine (HI.out w1).mono ?_
    rintro e0 w2 ⟨rfl, rfl⟩
    go_wp2_with fail
    try go_ret3
    exact N.out
  | true =>
    have htr : Lib.trimPrefix s.data.toList [117, 123] = s.data.toList.drop 2 := by unfold Lib.trimPrefix; rw [if_pos hp]; rfl
    rw [hp, htr] at HCP
    obtain ⟨D, hD⟩ : ∃ D : ByteArray, D = ⟨(s.data.toList.drop 2).toArray⟩ := ⟨_, rfl⟩
    have hDl : D.data.toList = s.data.toList.drop 2 := by rw [hD]
    rw [← hD] at HCP
    have hI := fun w0 => Tryd.strings_IndexByte D 125 w0
    have e125 : (125 : Int).toNat.toUInt8 = (125 : UInt8) := rfl
    have hbd := indexByte_bound 125 D.data.toList
    rw [← Lib.size_eq] at hbd
    simp only [e125] at hI
    have hbad := uOf_bad s.data.toList
    have hhex := fun k h => uOf_hex s.data.toList k hp h
    rw [← hDl] at hbad hhex
    obtain ⟨I, hIe⟩ : ∃ I, I = Lib.indexByte D.data.toList 125 := ⟨_, rfl⟩
    simp only [← hIe] at hI hbd hbad hhex
    have HC := Lib.hid HCP
    have HI := Lib.hid hI
    by_cases hk : I < 1 ∨ 6 < I
    · rw [hbad (.inr hk)] at hesc
      have N := Lib.hid (HNO.out 4 w (by decide) hesc (Below.refl _ _))
      clear hesc HCP hbad hhex hD hDl hp HYES HNO hI hIe e125 htr
      rcases hk with hk | hk
      · go_enter Tryd.func31, Tryd.ntmps31
        go_wp2_with fail
        refine HC.out.mono ?_
        rintro e0 w1 ⟨rfl, rfl⟩
        go_wp2_with fail
        refine (HI.out w1).mono ?_
        rintro e0 w2 ⟨rfl, rfl⟩
        go_wp2_with fail
        try go_ret3
        exact N.out
      · have hk1 : ¬ I < 1 := by omega
        go_enter Tryd.func31, Tryd.ntmps31
        go_wp2_with fail
        refine HC.out.mono ?_
        rintro e0 w1 ⟨rfl, rfl⟩
        go_wp2_with fail
        refine (HI.out w1).mono ?_
        rintro e0 w2 ⟨rfl, rfl⟩
        go_wp2_with fail
        try go_ret3
        exact N.out
    · obtain ⟨k, rfl⟩ : ∃ k : Nat, I = (k : Int) := ⟨I.toNat, by omega⟩
      have hh := hhex k rfl (by omega) (by omega)
      rw [hh] at hesc
      have hsz : (D.extract 0 k).size = k := by simp; omega
      have HPU := Lib.hid (fun w0 (h : ErrVar w0) => parseUint_any (D.extract 0 k) w0 (by omega) (by omega) h)
      unfold PUPost at HPU
      rw [ext_front] at HPU
      have hvl := fun v h => hexVal_lt (D.data.toList.take k) 0 v h
      have hkl : (D.data.toList.take k).length ≤ 6 := by rw [List.length_take]; omega
      generalize D.data.toList.take k = T at *
      have HESC := Lib.hid hesc
      have HVL := Lib.hid hvl
      obtain ⟨k1, k2, k3⟩ : (1 : Int) ≤ (k : Int) ∧ (k : Int) ≤ 6 ∧ (k : Int) ≤ (D.size : Int) := by omega
      have nk1 : ¬ (k : Int) < 1 := by omega
      have nk6 : ¬ 6 < (k : Int) := by omega
      clear hesc HCP hbad hhex hh hD hDl hp hI hIe e125 htr hvl hsz hk hbd
      go_enter Tryd.func31, Tryd.ntmps31
      go_wp2_with fail
      refine HC.out.mono ?_
      rintro e0 w1 ⟨rfl, rfl⟩
      go_wp2_with fail
      refine (HI.out w1).mono ?_
      rintro e0 w2 ⟨rfl, rfl⟩
      go_wp2_with fail
      refine (HPU.out w2 HE.out).mono ?_
      rintro e0 w3 (⟨v, hv, rfl, hb⟩ | ⟨hv, N, rfl, hb⟩)
      · have hv6 : v < 16777216 := by
          have h1 := HVL.out v hv
          have h2 : 16 ^ T.length ≤ 16 ^ 6 := Nat.pow_le_pow_right (by decide) hkl
          have h3 : (16 : Nat) ^ 6 = 16777216 := by decide
          omega
        have HS := Lib.hid (size_any (v : Int) w3)
        unfold SizePost at HS
        have hr := runeSize_iff (v : Int)
        have hE2 := HESC.out
        rw [hv] at hE2
        simp only at hE2
        cases hg : good (v : Int) with
        | true =>
          rw [hg] at hr
          rw [if_pos hg] at hE2
          have NN := Lib.hid (HYES.out _ _ w3 hE2 hb)
          generalize runeSize (v : Int) = z at *
          have tz : (z == 0) = false := hr
          have HV6 := Lib.hid hv6
          have v6 : (v : Int) < 16777216 := by omega
          clear hv hb hE2 hr hg HESC HVL hv6
          go_wp2_with fail
          refine HS.out.mono ?_
          rintro e0 w4 ⟨rfl, rfl⟩
          go_wp2_with fail
          try go_ret3
          exact NN.out
        | false =>
          rw [hg] at hr
          rw [if_neg (by rw [hg]; decide)] at hE2
          have NN := Lib.hid (HNO.out 3 w3 (by decide) hE2 hb)
          generalize runeSize (v : Int) = z at *
          have tz : (z == 0) = true := hr
          have v6 : (v : Int) < 16777216 := by omega
          clear hv hb hE2 hr hg HESC HVL hv6
          go_wp2_with fail
          refine HS.out.mono ?_
          rintro e0 w4 ⟨rfl, rfl⟩
          go_wp2_with fail
          try go_ret3
          exact NN.out
      · have hE2 := HESC.out
        rw [hv] at hE2
        have NN := Lib.hid (HNO.out 4 w3 (by decide) hE2 hb)
        clear hv hb hE2 HESC HVL
        go_wp2_with fail
        try go_ret3
        exact NN.out
end Go.Proofs.YtopfkelhgffomaaDoor
