/-
  The contract of esc.Unquote. Conditions: the library's tables and the variable strconv.ErrSyntax lie in the world; the text has at most 2^47 - 4096 bytes.
  The contract of esc.Quote. Conditions: the library's tables lie in the world; the text has at most 10^8 bytes.
  The contracts of esc.Bare and esc.Key. Conditions: the library's tables lie in the world; the text has at most 10^8 bytes.
-/
import Derived.Shelf.Strings.MapGrows
import Derived.Lib.OthersKept
import Derived.Test.YtldhmfkojaekfaaGreatDoorShowSameAllPartO
namespace Go.Proofs.YtldhmfkojaekfaaGreatDoor
open Go.RowKit Gx
set_option maxRecDepth 100000

structure ETabs (w : World) : Prop where
  u : Tabs w
  n : NTabs w
  e : ErrVar w
theorem ETabs.keep {w w' : World} (h : ETabs w) (hb : Below w.heap.size w w') : ETabs w' := ⟨h.u.keep hb, h.n.keep hb, h.e.keep hb⟩

def UnqPost (l : List UInt8) (w : World) (e : Ending) (w' : World) : Prop :=
  (∃ rs n, unquote l = some (rs, n) ∧ e = .returned (.tuple #[.string ⟨(encs rs).toArray⟩, .int .i64 (n : Nat), .int .i64 0]) ∧ Below w.heap.size w w') ∨
  (unquote l = none ∧ ∃ c : Int, c ≠ 0 ∧ e = .returned (.tuple #[.string ⟨#[]⟩, .int .i64 0, .int .i64 c]) ∧ Below w.heap.size w w')

def joinU (acc : List Int) (n : Nat) (x : Option (List Int × Nat)) : Option (List Int × Nat) := x.map fun p => (acc ++ p.1, n + p.2)
theorem joinU_more (acc : List Int) (a n : Nat) (r : Int) (x : Option (List Int × Nat)) : joinU acc a (more r n x) = joinU (acc ++ [r]) (a + n) x := by
  cases x with
  | none => rfl
  | some p => simp [joinU, more]; omega
theorem unqF_end (f : Nat) : unqF f [] = none := by cases f <;> rfl
theorem unqF_cons (f : Nat) (b : UInt8) (t : List UInt8) : unqF (f + 1) (b :: t) =
    if b = 34 then some ([], 1)
    else if b = 10 then none
    else if b = 92 then
      match escOf t with
      | none => none
      | some (r, n) => more r (1 + n) (unqF f (t.drop n))
    else if Lib.decodeL (b :: t) = (65533, 1) then none
    else more ((Lib.decodeL (b :: t)).1 : Int) (Lib.decodeL (b :: t)).2 (unqF f ((b :: t).drop (Lib.decodeL (b :: t)).2)) := by
  conv => lhs; unfold unqF
  rfl

theorem uOf_len {s : List UInt8} {r : Int} {n : Nat} (h : uOf s = some (r, n)) : 4 ≤ n := by
  unfold uOf at h
  split at h
  · split at h
    · cases h
    · split at h
      · cases h
      · split at h
        · obtain ⟨-, rfl⟩ := Prod.mk.inj (Option.some.inj h); omega
        · cases h
  · cases h
theorem escOf_len {s : List UInt8} {r : Int} {n : Nat} (h : escOf s = some (r, n)) : (Lib.encodeRune r).length ≤ 1 + n := by
  have h4 := (enc_len r).2
  unfold escOf at h
  split at h
  · cases h
  split at h
  · rename_i hc
    obtain ⟨rfl, rfl⟩ := Prod.mk.inj (Option.some.inj h)
    rcases hc with rfl | rfl | rfl <;> decide
  split at h
  · obtain ⟨rfl, rfl⟩ := Prod.mk.inj (Option.some.inj h); decide
  split at h
  · obtain ⟨rfl, rfl⟩ := Prod.mk.inj (Option.some.inj h); decide
  split at h
  · obtain ⟨rfl, rfl⟩ := Prod.mk.inj (Option.some.inj h); decide
  · have := uOf_len h; omega
theorem decode_enc_len {l : List UInt8} (hne : l ≠ []) (h : Lib.decodeL l ≠ (65533, 1)) : (Lib.encodeRune ((Lib.decodeL l).1 : Int)).length = (Lib.decodeL l).2 := by
  have he := Lib.encode_decode l hne (fun h2 => h (Prod.ext h2.1 h2.2))
  rw [he, List.length_take, Nat.min_eq_left (decode_len l hne)]

set_option maxHeartbeats 8000000 in
theorem unquote_any (s : ByteArray) (w : World) (hT : ETabs w) (hs : s.size ≤ 140737488351232) : Calls Tryz.prog 98 #[.string s] w (UnqPost s.data.toList w) := by
  have HYES := Lib.hid (fun rs n w' (h : unquote s.data.toList = some (rs, n)) (hb : Below w.heap.size w w') => (show UnqPost s.data.toList w (.returned (.tuple #[.string ⟨(encs rs).toArray⟩, .int .i64 (n : Nat), .int .i64 0])) w' from .inl ⟨rs, n, h, rfl, hb⟩))
  have HNO := Lib.hid (fun (c : Int) w' (hc : c ≠ 0) (h : unquote s.data.toList = none) (hb : Below w.heap.size w w') => (show UnqPost s.data.toList w (.returned (.tuple #[.string ⟨#[]⟩, .int .i64 0, .int .i64 c])) w' from .inr ⟨h, c, hc, rfl, hb⟩))
  have hsl := Lib.size_eq s
  have hU : Lib.hasPrefix s.data.toList [34] = true → joinU [] 1 (unqF s.size (s.data.toList.drop 1)) = unquote s.data.toList := by
    intro h
    unfold unquote joinU
    rw [if_pos h, hsl]
    congr 1
    funext p
    simp; omega
  have hN : Lib.hasPrefix s.data.toList [34] = false → unquote s.data.toList = none := by
    intro h
    unfold unquote
    rw [h]; rfl
  have hne : Lib.hasPrefix s.data.toList [34] = true → 1 ≤ s.size := by
    intro h
    rcases Nat.eq_zero_or_pos s.size with h0 | h0
    · rw [list_nil h0] at h; cases h
    · exact h0
  have HP := Lib.hid (Tryz.strings_HasPrefix s ⟨#[34]⟩ w)
  rw [show (⟨#[34]⟩ : ByteArray).data.toList = [34] from rfl] at HP
  generalize UnqPost s.data.toList w = POST at *
  generalize unquote s.data.toList = U at *
  generalize Lib.hasPrefix s.data.toList [34] = hp at *
  have HT := Lib.hid hT
  have HU := Lib.hid hU
  have HN := Lib.hid hN
  have HNE := Lib.hid hne
  obtain ⟨l, hl⟩ : ∃ l, l = s.data.toList := ⟨_, rfl⟩
  have HCO := Lib.hid (fun k h => drop_cons s k h)
  rw [← hl] at HU HCO hsl
  have HL := Lib.hid hl
  have HSL := Lib.hid hsl
  clear hU hN hne hT hl hsl
  go_enter Tryz.func98, Tryz.ntmps98
  go_wp2_with fail
  refine HP.out.mono ?_
  rintro e0 w1 ⟨rfl, rfl⟩
  cases hp with
  | false =>
    have N := Lib.hid (HNO.out 4 w1 (by decide) (HN.out rfl) (Below.refl _ _))
    go_wp2_with fail
    try go_ret3
    exact N.out
  | true =>
    have h1 := HNE.out rfl
    have hj := HU.out rfl
    have HJ := Lib.hid hj
    have hfr := YtldhmfkojaekfaaGreatDoor.fresh w1
    have HFR := Lib.hid hfr
    clear hj hfr HN HU HNE HP
    go_wp2_with fail
    go_loopw [6] (fun iv wr => ∃ (k f : Nat) (acc : List Int), iv = .int .i64 k ∧ k ≤ s.size ∧ s.size ≤ k + f ∧ (encs acc).length ≤ k ∧ Hid (joinU acc k (unqF f (l.drop k)) = U) ∧ Hid (YtldhmfkojaekfaaGreatDoor.Bld w1.heap.size (encs acc) wr) ∧ Below w1.heap.size w1 wr) (fun iv _ => s.size - (intOf iv).toNat)
    case atStart => exact ⟨1, s.size, [], rfl, h1, by omega, by decide, HJ.out, HFR.out, (Below.refl _ _).alloc (Nat.le_refl _) _⟩
    case round =>
      obtain ⟨k, f, acc, rfl, hk, hf, hal, hq, hB, hb⟩ := hrel
      obtain ⟨k0, k1⟩ : 0 ≤ (k : Int) ∧ (k : Int) ≤ (s.size : Int) := by omega
      by_cases hlt : k < s.size
      · obtain ⟨g, rfl⟩ : ∃ g, f = g + 1 := ⟨f - 1, by omega⟩
        have hco := HCO.out k hlt
        have hst := hq.out
        rw [hco, unqF_cons] at hst
        obtain ⟨k2, k3⟩ : 0 ≤ (k : Int) + 1 ∧ (k : Int) + 1 ≤ (s.size : Int) := by omega
        by_cases b34 : s[k] = 34
        · rw [if_pos b34] at hst
          have y1 := (byte_y s[k] 34 34 rfl b34).1
          have N := Lib.hid (fun w' hb => HYES.out acc (k + 1) w' (by rw [← hst]; simp [joinU]) hb)
          have HBU := Lib.hid (YtldhmfkojaekfaaGreatDoor.built w1.heap.size (encs acc) wr hB.out hb.size)
          have B1 := Lib.hid hb
          clear hst hco b34 hq hB hb
          go_wp2_with fail
          refine HBU.out.mono ?_
          rintro e0 w2 ⟨rfl, hb2⟩
          have NN := Lib.hid (N.out w2 (B1.out.trans hb2))
          clear hb2
          go_wp2_with fail
          try go_ret3
          exact NN.out
        rw [if_neg b34] at hst
        have n1 := (byte_n s[k] 34 34 rfl b34).1
        by_cases b10 : s[k] = 10
        · rw [if_pos b10] at hst
          have y1 := (byte_y s[k] 10 10 rfl b10).1
          have N := Lib.hid (HNO.out 4 wr (by decide) hst.symm hb)
          clear hst hco b34 b10 hq hB hb
          go_wp2_with fail
          try go_ret3
          exact N.out
        rw [if_neg b10] at hst
        have n2 := (byte_n s[k] 10 10 rfl b10).1
        by_cases b92 : s[k] = 92
        · rw [if_pos b92] at hst
          have y1 := (byte_y s[k] 92 92 rfl b92).1
          have HX := Lib.hid (fun w0 (h : ErrVar w0) => escape_any (s.extract (k + 1) s.size) w0 (by simp; omega) h)
          unfold EscPost at HX
          rw [Lib.extract_to_end, ← HL.out] at HX
          have heg := fun r n h => escOf_good (s := l.drop (k + 1)) (r := r) (n := n) h
          rw [List.length_drop, ← HSL.out] at heg
          have HEG := Lib.hid heg
          have HX2 := Lib.hid (HX.out wr (HT.out.keep hb).e)
          have HST := Lib.hid hst
          have B1 := Lib.hid hb
          clear hst hco b34 b10 b92 hq hb heg HX
          go_wp2_with fail
          refine HX2.out.mono ?_
          rintro e0 w2 (⟨r, n, he, rfl, hb2⟩ | ⟨he, c, hc, rfl, hb2⟩)
          · obtain ⟨g1, g2, g3⟩ := HEG.out r n he
            have hst := HST.out
            rw [he] at hst
            simp only at hst
            rw [joinU_more, List.drop_drop] at hst
            have hst2 := Lib.hid hst
            rw [good_iff] at g1
            obtain ⟨r0, r1, -⟩ := g1
            have hB2 : YtldhmfkojaekfaaGreatDoor.Bld w1.heap.size (encs acc) w2 := Lib.IsBuilderF.below hB.out hb2
            have HW := Lib.hid (YtldhmfkojaekfaaGreatDoor.writeRune w1.heap.size (encs acc) r (by omega) (by omega) w2 hB2 (by omega) (Nat.le_trans B1.out.size hb2.size))
            unfold YtldhmfkojaekfaaGreatDoor.WrotePost at HW
            have B2 := Lib.hid (B1.out.trans (hb2.mono B1.out.size))
            have hen := escOf_len he
            clear hst he hb2 hB2 HST HEG hB
            go_wp2_with fail
            refine HW.out.mono ?_
            rintro e0 w3 ⟨rfl, hB3, hb3, -⟩
            have B3 := Lib.hid (B2.out.trans hb3)
            have hB4 : Hid (YtldhmfkojaekfaaGreatDoor.Bld w1.heap.size (encs (acc ++ [r])) w3) := by
              show YtldhmfkojaekfaaGreatDoor.Bld _ _ _
              rw [encs_append]
              simpa [encs] using hB3
            have hl4 : (encs (acc ++ [r])).length ≤ k + (1 + n) := by
              rw [encs_append, List.length_append]
              simp [encs] at hal ⊢
              omega
            have hst3 : Hid (joinU (acc ++ [r]) (k + (1 + n)) (unqF g (l.drop (k + (1 + n)))) = U) := by
              show _ = _
              rw [← hst2.out, show k + 1 + n = k + (1 + n) by omega]
            clear hb3 hB3 hst2
            go_wp2_with fail
            go_roundw
            case rel => exact ⟨k + (1 + n), g, acc ++ [r], by congr 1 <;> omega, by omega, by omega, hl4, hst3, hB4, B3.out⟩
            case measure => simp [intOf]; omega
          · have hst := HST.out
            rw [he] at hst
            have N := Lib.hid (HNO.out c w2 hc hst.symm (B1.out.trans (hb2.mono B1.out.size)))
            have tc : (c != 0) = true := by rw [bne_iff_ne]; exact hc
            clear hst he hb2 HST HEG hB hc
            go_wp2_with fail
            try go_ret3
            exact N.out
        · rw [if_neg b92] at hst
          have n3 := (byte_n s[k] 92 92 rfl b92).1
          have hne : l.drop k ≠ [] := by rw [hco]; simp
          rw [← hco] at hst
          have HX := Lib.hid (fun w0 (h : Tabs w0) => next_full (s.extract k s.size) w0 h)
          unfold NextFull at HX
          rw [Lib.extract_to_end, ← HL.out] at HX
          have hdec : dec (l.drop k) = Lib.decodeL (l.drop k) := by unfold dec; rw [if_neg hne]
          have hp := decodeL_pos (l.drop k)
          have hle := decode_len (l.drop k) hne
          rw [List.length_drop, ← HSL.out] at hle
          have hg := Lib.decodeN_valid (l.drop k).length ((l.drop k).getD 0 0).toNat ((l.drop k).getD 1 0).toNat ((l.drop k).getD 2 0).toNat ((l.drop k).getD 3 0).toNat (UInt8.toNat_lt _)
          rw [← Lib.decodeL_N] at hg
          have HX2 := HX.out wr (HT.out.keep hb).u
          unfold nextR at HX2
          rw [hdec] at HX2
          obtain ⟨r, hr⟩ : ∃ r, r = (Lib.decodeL (l.drop k)).1 := ⟨_, rfl⟩
          obtain ⟨n, hn⟩ : ∃ n, n = (Lib.decodeL (l.drop k)).2 := ⟨_, rfl⟩
          have hpair : Lib.decodeL (l.drop k) = (r, n) := by rw [hr, hn]
          have hlen0 := fun h => decode_enc_len hne h
          rw [hpair] at hlen0
          rw [hpair] at HX2 hst
          rw [← hn] at hp hle
          rw [← hr] at hg
          simp only at HX2 hst
          have B1 := Lib.hid hb
          by_cases hbad : r = 65533 ∧ n = 1
          · rw [if_pos (by rw [hbad.1, hbad.2])] at hst
            rw [if_pos ⟨hbad.1, by omega⟩] at HX2
            have HX3 := Lib.hid HX2
            have N0 : Hid (U = none) := hst.symm
            clear HX2 hst hco b34 b10 b92 hq hb HX hne hdec hp hle hg hr hn hpair hlen0
            go_wp2_with fail
            refine HX3.out.mono ?_
            rintro e0 w2 ⟨rfl, hb2⟩
            have N := Lib.hid (HNO.out 3 w2 (by decide) N0.out (B1.out.trans (hb2.mono B1.out.size)))
            clear hb2
            go_wp2_with fail
            try go_ret3
            exact N.out
          · rw [if_neg (by intro h; exact hbad (Prod.mk.inj h))] at hst
            rw [if_neg (by rintro ⟨h1, h2⟩; exact hbad ⟨h1, by omega⟩)] at HX2
            rw [joinU_more, List.drop_drop] at hst
            have hst2 := Lib.hid hst
            have HX3 := Lib.hid HX2
            have HLEN := Lib.hid (hlen0 (by intro h; exact hbad (Prod.mk.inj h)))
            clear HX2 hst hco b34 b10 b92 hq hb HX hne hdec hr hn hpair hbad hlen0
            have r0 : 0 ≤ (r : Int) := by omega
            go_wp2_with fail
            refine HX3.out.mono ?_
            rintro e0 w2 ⟨rfl, hb2⟩
            have hB2 : YtldhmfkojaekfaaGreatDoor.Bld w1.heap.size (encs acc) w2 := Lib.IsBuilderF.below hB.out hb2
            have HW := Lib.hid (YtldhmfkojaekfaaGreatDoor.writeRune w1.heap.size (encs acc) (r : Int) (by omega) (by omega) w2 hB2 (by omega) (Nat.le_trans B1.out.size hb2.size))
            unfold YtldhmfkojaekfaaGreatDoor.WrotePost at HW
            have B2 := Lib.hid (B1.out.trans (hb2.mono B1.out.size))
            have hen := Nat.le_of_eq HLEN.out
            clear hb2 hB2 hB
            go_wp2_with fail
            refine HW.out.mono ?_
            rintro e0 w3 ⟨rfl, hB3, hb3, -⟩
            have B3 := Lib.hid (B2.out.trans hb3)
            have hB4 : Hid (YtldhmfkojaekfaaGreatDoor.Bld w1.heap.size (encs (acc ++ [(r : Int)])) w3) := by
              show YtldhmfkojaekfaaGreatDoor.Bld _ _ _
              rw [encs_append]
              simpa [encs] using hB3
            have hl4 : (encs (acc ++ [(r : Int)])).length ≤ k + n := by
              rw [encs_append, List.length_append]
              simp [encs] at hal ⊢
              omega
            clear hb3 hB3
            go_wp2_with fail
            go_roundw
            case rel => exact ⟨k + n, g, acc ++ [(r : Int)], by congr 1 <;> omega, by omega, by omega, hl4, hst2.out, hB4, B3.out⟩
            case measure => simp [intOf]; omega
      · have hst := hq.out
        rw [List.drop_eq_nil_of_le (by have := HSL.out; omega), unqF_end] at hst
        have N := Lib.hid (HNO.out 4 wr (by decide) hst.symm hb)
        clear hst hq hB hb
        go_wp2_with fail
        try go_ret3
        exact N.out
end Go.Proofs.YtldhmfkojaekfaaGreatDoor
namespace Go.Proofs.YtldhmfkojaekfaaGreatDoor
open Go.RowKit Gx
set_option maxRecDepth 100000

/-- the tables that Quote reads -/
structure QTabs (w : World) : Prop where
  u : Tabs w
  n : NTabs w
theorem QTabs.keep {w w' : World} (h : QTabs w) (hb : Below w.heap.size w w') : QTabs w' := ⟨h.u.keep hb, h.n.keep hb⟩
def StrErr (x : List UInt8) (c : Int) (w : World) (e : Ending) (w' : World) : Prop := e = .returned (.tuple #[.string ⟨x.toArray⟩, .int .i64 c]) ∧ Below w.heap.size w w'
theorem quotes_snoc (a : List Int) (r : Int) : quotes (a ++ [r]) = quotes a ++ quoteR r := by unfold quotes; rw [List.flatMap_append]; simp
theorem encs_snoc (a : List Int) (r : Int) : encs (a ++ [r]) = encs a ++ Lib.encodeRune r := by rw [encs_append]; simp [encs]
/-- where the text is left: the runes told, those to tell, the iterator, the builder -/
def QI (B I : Nat) (s : ByteArray) (rs a b : List Int) (wr : World) : Prop := rs = a ++ b ∧ YtldhmfkojaekfaaGreatDoor.Bld B ([34] ++ quotes a) wr ∧ wr.heap[I]? = some (.stringIter s (encs a).length)
theorem QI.next {B I : Nat} {s : ByteArray} {rs a b : List Int} {r : Int} {wr w' : World} (h : QI B I s rs a (r :: b) wr) (hb : YtldhmfkojaekfaaGreatDoor.Bld B ([34] ++ quotes (a ++ [r])) w') (hi : w'.heap[I]? = some (.stringIter s (encs (a ++ [r])).length)) : QI B I s rs (a ++ [r]) b w' :=
  ⟨by rw [h.1]; simp, hb, hi⟩

set_option maxHeartbeats 1000000 in
theorem quote_no (s : ByteArray) (w : World) (hT : QTabs w) (hs : s.size ≤ 100000000) (hok : ¬ okText s.data.toList) : Calls Tryz.prog 94 #[.string s] w (StrErr [] 3 w) := by
  have HB := Lib.hid (bad_any s w hT.u (by omega))
  unfold BadPost at HB
  have HO := Lib.hid hok
  clear hok hT
  go_enter Tryz.func94, Tryz.ntmps94
  go_wp2_with fail
  refine HB.out.mono ?_
  rintro e0 w1 ⟨i, rfl, hi, hb⟩
  have B1 := Lib.hid hb
  have h0 : 0 ≤ i := by
    rcases Int.lt_or_le i 0 with h | h
    · exact absurd (hi.1 h) HO.out
    · exact h
  have t0 : decide (0 ≤ i) = true := decide_eq_true h0
  clear hb hi
  go_wp2_with fail
  try go_ret2
  exact ⟨rfl, B1.out⟩

set_option maxHeartbeats 16000000 in
theorem quote_yes (s : ByteArray) (rs : List Int) (w : World) (hT : QTabs w) (hs : s.size ≤ 100000000) (hg : rs.all good = true) (hl : s.data.toList = encs rs) : Calls Tryz.prog 94 #[.string s] w (StrErr (quoteOf rs) 0 w) := by
  have HB := Lib.hid (bad_any s w hT.u (by omega))
  unfold BadPost at HB
  have HT := Lib.hid hT
  have HOK := Lib.hid (show okText s.data.toList from ⟨rs, hg, hl⟩)
  have hsz : s.size = (encs rs).length := by rw [Lib.size_eq, hl]
  have HSZ := Lib.hid hsz
  have HL := Lib.hid hl
  have HG := Lib.hid hg
  have hfin : ∀ (S : ByteArray) w', S = ⟨(quoteOf rs).toArray⟩ → Below w.heap.size w w' → StrErr (quoteOf rs) 0 w (.returned (.tuple #[.string S, .int .i64 0])) w' := by
    rintro S w' rfl hb; exact ⟨rfl, hb⟩
  have HFIN := Lib.hid hfin
  generalize StrErr (quoteOf rs) 0 w = POST at *
  clear hT hg hl hsz hfin
  go_enter Tryz.func94, Tryz.ntmps94
  go_wp2_with fail
  refine HB.out.mono ?_
  rintro e0 w1 ⟨i, rfl, hi, hb⟩
  have B1 := Lib.hid hb
  have h0 : i < 0 := hi.2 HOK.out
  have t0 : decide (0 ≤ i) = false := decide_eq_false (by omega)
  have HFR := Lib.hid (YtldhmfkojaekfaaGreatDoor.fresh w1)
  have hal := (Below.refl w1.heap.size w1).alloc (Nat.le_refl _) (.cells #[.pointer none, .slice none 0 0] 74)
  have HW0 := Lib.hid (YtldhmfkojaekfaaGreatDoor.writeByte w1.heap.size [] 34 _ HFR.out (by decide) hal.size)
  unfold YtldhmfkojaekfaaGreatDoor.WrotePost at HW0
  rw [show ((34 : UInt8).toNat : Nat) = 34 from rfl] at HW0
  have BA := Lib.hid hal
  clear hb hi hal
  go_wp2_with fail
  refine HW0.out.mono ?_
  rintro e0 w2 ⟨rfl, hB2, hb2, -⟩
  have hlt2 : w1.heap.size < w2.heap.size := Nat.lt_of_lt_of_le (show w1.heap.size < (w1.alloc (.cells #[.pointer none, .slice none 0 0] 74)).heap.size by simp) hb2.size
  have B2 := Lib.hid (B1.out.trans ((BA.out.trans hb2).mono B1.out.size))
  have hit0 := World.iter_heap w2 s 0
  have hbl0 := (Below.refl w2.heap.size w2).alloc (Nat.le_refl _) (.stringIter s 0)
  have HQ0 : Hid (QI w1.heap.size w2.heap.size s rs [] rs (w2.alloc (.stringIter s 0))) := ⟨rfl, Lib.IsBuilderF.alloc hB2 _, hit0⟩
  have B3 := Lib.hid (B2.out.trans (hbl0.mono B2.out.size))
  obtain ⟨I, hI⟩ : ∃ I, I = w2.heap.size := ⟨_, rfl⟩
  obtain ⟨B, hBB⟩ : ∃ B, B = w1.heap.size := ⟨_, rfl⟩
  have hBI : B < I := by omega
  have hI0 : I < (w2.alloc (.stringIter s 0)).heap.size := by
    have : w2.heap.size < (w2.alloc (.stringIter s 0)).heap.size := by simp
    omega
  have HI := Lib.hid hI
  have HBB := Lib.hid hBB
  have hwB : w.heap.size ≤ B := by rw [hBB]; exact B1.out.size
  clear hB2 hb2 hit0 hbl0 HFR HW0 hlt2 hI hBB
  go_wp2_with fail
  simp only [← HI.out, ← HBB.out] at HQ0 ⊢
  go_loopw [] (fun wr => ∃ (a b : List Int), Hid (QI B I s rs a b wr) ∧ (encs a).length ≤ s.size ∧ Hid (Below w.heap.size w wr) ∧ I < wr.heap.size) (fun wr => s.size - wr.iterPos I)
  case atStart => exact ⟨[], rs, HQ0.out, Nat.zero_le _, B3.out, hI0⟩
  case round =>
    obtain ⟨a, b, hq, hps, hbw, hIw⟩ := hrel
    obtain ⟨q1, q2, hit⟩ := hq.out
    have QA := Lib.hid q1
    have QB := Lib.hid q2
    clear q1 q2
    obtain ⟨pos, hpos⟩ : ∃ pos, pos = (encs a).length := ⟨_, rfl⟩
    rw [← hpos] at hit hps
    have HPOS := Lib.hid hpos
    have hql : (quotes a).length ≤ 6 * pos := by
      rw [hpos]
      refine quotes_le a ?_
      have := HG.out
      rw [QA.out, List.all_append, Bool.and_eq_true] at this
      exact this.1
    clear hpos
    by_cases hp : pos < s.size
    · have hnx : ∀ ty, (Instr.next (.pointer (some ⟨I, 0, none⟩)) true ty).run Tryz.prog wr = _ := fun ty => Lib.run_next_any_at wr I s pos ty hit hp
      have hdd := Lib.decodeL_drop s pos
      have hrest : s.data.toList.drop pos = encs b := by
        rw [HL.out, QA.out, encs_append, HPOS.out, List.drop_left]
      rw [hrest] at hdd
      rw [← hdd] at hnx
      cases b with
      | nil =>
        exfalso
        have := congrArg List.length hrest
        rw [List.length_drop, ← Lib.size_eq] at this
        simp [encs] at this
        omega
      | cons r b =>
        have hgr : good r = true := by
          have := HG.out
          rw [QA.out, List.all_append, List.all_cons, Bool.and_eq_true, Bool.and_eq_true] at this
          exact this.2.1
        have hgr2 := hgr
        rw [good_iff] at hgr2
        obtain ⟨R, rfl⟩ := Int.eq_ofNat_of_zero_le hgr2.1
        rw [encs_cons, decode_enc _ hgr] at hnx
        rw [Int.toNat_natCast] at hnx
        have hdl := congrArg List.length hrest
        rw [List.length_drop, ← Lib.size_eq, encs_cons, List.length_append] at hdl
        obtain ⟨n, hn⟩ : ∃ n, n = (Lib.encodeRune (R : Int)).length := ⟨_, rfl⟩
        rw [← hn] at hnx hdl
        have hen : 1 ≤ n ∧ n ≤ 4 := by rw [hn]; exact enc_len _
        obtain ⟨R0, R1, -⟩ := hgr2
        have hit2 := Lib.iterAt_heap wr I s pos (pos + n) hit
        have hIB := Lib.IsBuilderF.iterAt QB.out hit (pos + n)
        have hbw2 := Lib.below_iterAt hbw.out (k := I) (by omega) s (pos + n)
        have hsz2 : I < (wr.iterAt I s (pos + n)).heap.size := by rw [Lib.iterAt_size]; exact hIw
        obtain ⟨wx, hwx⟩ : ∃ wx, wx = wr.iterAt I s (pos + n) := ⟨_, rfl⟩
        rw [← hwx] at hit2 hIB hbw2 hsz2
        have HWX := Lib.hid hwx
        have XB : Hid (YtldhmfkojaekfaaGreatDoor.Bld B ([34] ++ quotes a) wx) := hIB
        have XI := Lib.hid hit2
        have XW := Lib.hid hbw2
        have HN := Lib.hid hn
        have hpn : pos + n ≤ s.size := by omega
        have HEL : Hid ((encs (a ++ [(R : Int)])).length = pos + n) := by
          show _ = _
          rw [encs_snoc, List.length_append, ← HPOS.out, ← HN.out]
        have hfwd : ∀ w', YtldhmfkojaekfaaGreatDoor.Bld B ([34] ++ quotes (a ++ [(R : Int)])) w' → w'.heap[I]? = some (.stringIter s (pos + n)) → QI B I s rs (a ++ [(R : Int)]) b w' :=
          fun w' h1 h2 => hq.out.next h1 (by rw [HEL.out]; exact h2)
        have HF := Lib.hid hfwd
        have hmeas : ∀ w' : World, w'.heap[I]? = some (.stringIter s (pos + n)) → s.size - w'.iterPos I < s.size - wr.iterPos I := by
          intro w' h
          simp only [World.iterPos, h, hit]
          omega
        have HM := Lib.hid hmeas
        have hl0 : ([34] ++ quotes a).length ≤ 700000000 := by rw [List.length_append]; simp; omega
        have hqs := quotes_snoc a (R : Int)
        have hqr : quoteR (R : Int) = if (R : Int) = 34 ∨ (R : Int) = 92 then 92 :: Lib.encodeRune (R : Int) else if (R : Int) = 10 then [92, 110] else if (R : Int) = 9 then [92, 116] else if (R : Int) = 13 then [92, 114] else if (R : Int) < 32 ∨ (R : Int) = 127 then [92, 117, 123] ++ hexText R ++ [125] else Lib.encodeRune (R : Int) := rfl
        clear hdd hrest hdl hn hq hit hIB hbw2 hit2 hgr hfwd hmeas hbw QA HPOS QB hwx hps hp hql
        have ht34 : ((R : Int) == 34) = decide (R = 34) := by rw [Bool.eq_iff_iff, beq_iff_eq, decide_eq_true_eq]; omega
        have ht92 : ((R : Int) == 92) = decide (R = 92) := by rw [Bool.eq_iff_iff, beq_iff_eq, decide_eq_true_eq]; omega
        have ht10 : ((R : Int) == 10) = decide (R = 10) := by rw [Bool.eq_iff_iff, beq_iff_eq, decide_eq_true_eq]; omega
        have ht9 : ((R : Int) == 9) = decide (R = 9) := by rw [Bool.eq_iff_iff, beq_iff_eq, decide_eq_true_eq]; omega
        have ht13 : ((R : Int) == 13) = decide (R = 13) := by rw [Bool.eq_iff_iff, beq_iff_eq, decide_eq_true_eq]; omega
        have ht127 : ((R : Int) == 127) = decide (R = 127) := by rw [Bool.eq_iff_iff, beq_iff_eq, decide_eq_true_eq]; omega
        by_cases c34 : R = 34 ∨ R = 92
        · rcases c34 with c | c
          · have hqr := hqr.trans (if_pos (show (R : Int) = 34 ∨ (R : Int) = 92 by omega))
            simp only [c] at ht34 ht92
            have t34 : ((R : Int) == 34) = true := by rw [c]; rfl
            have t92 : ((R : Int) == 92) = false := by rw [c]; rfl
            clear ht34 ht92 ht10 ht9 ht13 ht127 c
            have HW0 := Lib.hid (YtldhmfkojaekfaaGreatDoor.writeByte B ([34] ++ quotes a) 92 wx XB.out (by simp only [List.length_append, List.length_cons, List.length_nil] at hl0 ⊢; omega) (by omega))
            unfold YtldhmfkojaekfaaGreatDoor.WrotePost at HW0
            go_wp2_with fail
            try rw [← HWX.out]
            refine HW0.out.mono ?_
            rintro e0 y1 ⟨rfl, z1, z2, z3⟩
            have YB1 : Hid (YtldhmfkojaekfaaGreatDoor.Bld B (([34] ++ quotes a) ++ [92]) y1) := z1
            have YI1 : Hid (y1.heap[I]? = some (.stringIter s (pos + n))) := z3.iter XI.out (by omega)
            have YW1 := Lib.hid (Below.trans XW.out (z2.mono hwB))
            have hs1 : I < y1.heap.size := Nat.lt_of_lt_of_le hsz2 z2.size
            clear z1 z2 z3
            have HW1 := Lib.hid (YtldhmfkojaekfaaGreatDoor.writeRune B (([34] ++ quotes a) ++ [92]) (R : Int) (by omega) (by omega) y1 YB1.out (by simp only [List.length_append, List.length_cons, List.length_nil] at hl0 ⊢; omega) (by omega))
            unfold YtldhmfkojaekfaaGreatDoor.WrotePost at HW1
            go_wp2_with fail
            try rw [← HWX.out]
            refine HW1.out.mono ?_
            rintro e0 y2 ⟨rfl, z1, z2, z3⟩
            have YB2 : Hid (YtldhmfkojaekfaaGreatDoor.Bld B ((([34] ++ quotes a) ++ [92]) ++ Lib.encodeRune (R : Int)) y2) := z1
            have YI2 : Hid (y2.heap[I]? = some (.stringIter s (pos + n))) := z3.iter YI1.out (by omega)
            have YW2 := Lib.hid (Below.trans YW1.out (z2.mono hwB))
            have hs2 : I < y2.heap.size := Nat.lt_of_lt_of_le hs1 z2.size
            clear z1 z2 z3
            have ZB : Hid (YtldhmfkojaekfaaGreatDoor.Bld B ([34] ++ quotes (a ++ [(R : Int)])) y2) := by
              show YtldhmfkojaekfaaGreatDoor.Bld _ _ _
              rw [hqs, hqr]
              have := YB2.out
              simpa using this
            have ZI := Lib.hid YI2.out
            have ZW := Lib.hid YW2.out
            have hzs := hs2
            clear hqs hqr
            go_wp2_with fail
            go_roundw
            case rel => exact ⟨a ++ [(R : Int)], b, HF.out _ ZB.out ZI.out, by rw [HEL.out]; exact hpn, ZW.out, hzs⟩
            case measure => exact HM.out _ ZI.out
          · have hqr := hqr.trans (if_pos (show (R : Int) = 34 ∨ (R : Int) = 92 by omega))
            simp only [c] at ht34 ht92
            have t34 : ((R : Int) == 34) = false := by rw [c]; rfl
            have t92 : ((R : Int) == 92) = true := by rw [c]; rfl
            clear ht34 ht92 ht10 ht9 ht13 ht127 c
            have HW0 := Lib.hid (YtldhmfkojaekfaaGreatDoor.writeByte B ([34] ++ quotes a) 92 wx XB.out (by simp only [List.length_append, List.length_cons, List.length_nil] at hl0 ⊢; omega) (by omega))
            unfold YtldhmfkojaekfaaGreatDoor.WrotePost at HW0
            go_wp2_with fail
            try rw [← HWX.out]
            refine HW0.out.mono ?_
            rintro e0 y1 ⟨rfl, z1, z2, z3⟩
            have YB1 : Hid (YtldhmfkojaekfaaGreatDoor.Bld B (([34] ++ quotes a) ++ [92]) y1) := z1
            have YI1 : Hid (y1.heap[I]? = some (.stringIter s (pos + n))) := z3.iter XI.out (by omega)
            have YW1 := Lib.hid (Below.trans XW.out (z2.mono hwB))
            have hs1 : I < y1.heap.size := Nat.lt_of_lt_of_le hsz2 z2.size
            clear z1 z2 z3
            have HW1 := Lib.hid (YtldhmfkojaekfaaGreatDoor.writeRune B (([34] ++ quotes a) ++ [92]) (R : Int) (by omega) (by omega) y1 YB1.out (by simp only [List.length_append, List.length_cons, List.length_nil] at hl0 ⊢; omega) (by omega))
            unfold YtldhmfkojaekfaaGreatDoor.WrotePost at HW1
            go_wp2_with fail
            try rw [← HWX.out]
            refine HW1.out.mono ?_
            rintro e0 y2 ⟨rfl, z1, z2, z3⟩
            have YB2 : Hid (YtldhmfkojaekfaaGreatDoor.Bld B ((([34] ++ quotes a) ++ [92]) ++ Lib.encodeRune (R : Int)) y2) := z1
            have YI2 : Hid (y2.heap[I]? = some (.stringIter s (pos + n))) := z3.iter YI1.out (by omega)
            have YW2 := Lib.hid (Below.trans YW1.out (z2.mono hwB))
            have hs2 : I < y2.heap.size := Nat.lt_of_lt_of_le hs1 z2.size
            clear z1 z2 z3
            have ZB : Hid (YtldhmfkojaekfaaGreatDoor.Bld B ([34] ++ quotes (a ++ [(R : Int)])) y2) := by
              show YtldhmfkojaekfaaGreatDoor.Bld _ _ _
              rw [hqs, hqr]
              have := YB2.out
              simpa using this
            have ZI := Lib.hid YI2.out
            have ZW := Lib.hid YW2.out
            have hzs := hs2
            clear hqs hqr
            go_wp2_with fail
            go_roundw
            case rel => exact ⟨a ++ [(R : Int)], b, HF.out _ ZB.out ZI.out, by rw [HEL.out]; exact hpn, ZW.out, hzs⟩
            case measure => exact HM.out _ ZI.out
        have d34 : ¬ ((R : Int) = 34 ∨ (R : Int) = 92) := by omega
        replace hqr := hqr.trans (if_neg d34)
        have t34 : ((R : Int) == 34) = false := by rw [beq_eq_false_iff_ne]; omega
        have t92 : ((R : Int) == 92) = false := by rw [beq_eq_false_iff_ne]; omega
        clear ht34 ht92
        by_cases c10 : R = 10
        · have hqr := hqr.trans (if_pos (show (R : Int) = 10 by omega))
          have t10 : ((R : Int) == 10) = true := by rw [c10]; rfl
          clear d34 c34 ht10 ht9 ht13 ht127 c10
          have HW0 := Lib.hid (YtldhmfkojaekfaaGreatDoor.writeStr B ([34] ++ quotes a) ⟨#[92, 110]⟩ wx XB.out (by rw [show (⟨#[92, 110]⟩ : ByteArray).size = 2 from rfl]; omega) (by omega))
          unfold YtldhmfkojaekfaaGreatDoor.WrotePost at HW0
          go_wp2_with fail
          try rw [← HWX.out]
          refine HW0.out.mono ?_
          rintro e0 y1 ⟨rfl, z1, z2, z3⟩
          have YB1 : Hid (YtldhmfkojaekfaaGreatDoor.Bld B (([34] ++ quotes a) ++ (⟨#[92, 110]⟩ : ByteArray).data.toList) y1) := z1
          have YI1 : Hid (y1.heap[I]? = some (.stringIter s (pos + n))) := z3.iter XI.out (by omega)
          have YW1 := Lib.hid (Below.trans XW.out (z2.mono hwB))
          have hs1 : I < y1.heap.size := Nat.lt_of_lt_of_le hsz2 z2.size
          clear z1 z2 z3
          have ZB : Hid (YtldhmfkojaekfaaGreatDoor.Bld B ([34] ++ quotes (a ++ [(R : Int)])) y1) := by
            show YtldhmfkojaekfaaGreatDoor.Bld _ _ _
            rw [hqs, hqr]
            have := YB1.out
            simpa using this
          have ZI := Lib.hid YI1.out
          have ZW := Lib.hid YW1.out
          have hzs := hs1
          clear hqs hqr
          go_wp2_with fail
          go_roundw
          case rel => exact ⟨a ++ [(R : Int)], b, HF.out _ ZB.out ZI.out, by rw [HEL.out]; exact hpn, ZW.out, hzs⟩
          case measure => exact HM.out _ ZI.out
        replace hqr := hqr.trans (if_neg (show ¬ (R : Int) = 10 by omega))
        have t10 : ((R : Int) == 10) = false := by rw [beq_eq_false_iff_ne]; omega
        clear ht10
        by_cases c9 : R = 9
        · have hqr := hqr.trans (if_pos (show (R : Int) = 9 by omega))
          have t9 : ((R : Int) == 9) = true := by rw [c9]; rfl
          clear d34 c34 ht9 ht13 ht127 c9
          have HW0 := Lib.hid (YtldhmfkojaekfaaGreatDoor.writeStr B ([34] ++ quotes a) ⟨#[92, 116]⟩ wx XB.out (by rw [show (⟨#[92, 116]⟩ : ByteArray).size = 2 from rfl]; omega) (by omega))
          unfold YtldhmfkojaekfaaGreatDoor.WrotePost at HW0
          go_wp2_with fail
          try rw [← HWX.out]
          refine HW0.out.mono ?_
          rintro e0 y1 ⟨rfl, z1, z2, z3⟩
          have YB1 : Hid (YtldhmfkojaekfaaGreatDoor.Bld B (([34] ++ quotes a) ++ (⟨#[92, 116]⟩ : ByteArray).data.toList) y1) := z1
          have YI1 : Hid (y1.heap[I]? = some (.stringIter s (pos + n))) := z3.iter XI.out (by omega)
          have YW1 := Lib.hid (Below.trans XW.out (z2.mono hwB))
          have hs1 : I < y1.heap.size := Nat.lt_of_lt_of_le hsz2 z2.size
          clear z1 z2 z3
          have ZB : Hid (YtldhmfkojaekfaaGreatDoor.Bld B ([34] ++ quotes (a ++ [(R : Int)])) y1) := by
            show YtldhmfkojaekfaaGreatDoor.Bld _ _ _
            rw [hqs, hqr]
            have := YB1.out
            simpa using this
          have ZI := Lib.hid YI1.out
          have ZW := Lib.hid YW1.out
          have hzs := hs1
          clear hqs hqr
          go_wp2_with fail
          go_roundw
          case rel => exact ⟨a ++ [(R : Int)], b, HF.out _ ZB.out ZI.out, by rw [HEL.out]; exact hpn, ZW.out, hzs⟩
          case measure => exact HM.out _ ZI.out
        replace hqr := hqr.trans (if_neg (show ¬ (R : Int) = 9 by omega))
        have t9 : ((R : Int) == 9) = false := by rw [beq_eq_false_iff_ne]; omega
        clear ht9
        by_cases c13 : R = 13
        · have hqr := hqr.trans (if_pos (show (R : Int) = 13 by omega))
          have t13 : ((R : Int) == 13) = true := by rw [c13]; rfl
          clear d34 c34 ht13 ht127 c13
          have HW0 := Lib.hid (YtldhmfkojaekfaaGreatDoor.writeStr B ([34] ++ quotes a) ⟨#[92, 114]⟩ wx XB.out (by rw [show (⟨#[92, 114]⟩ : ByteArray).size = 2 from rfl]; omega) (by omega))
          unfold YtldhmfkojaekfaaGreatDoor.WrotePost at HW0
          go_wp2_with fail
          try rw [← HWX.out]
          refine HW0.out.mono ?_
          rintro e0 y1 ⟨rfl, z1, z2, z3⟩
          have YB1 : Hid (YtldhmfkojaekfaaGreatDoor.Bld B (([34] ++ quotes a) ++ (⟨#[92, 114]⟩ : ByteArray).data.toList) y1) := z1
          have YI1 : Hid (y1.heap[I]? = some (.stringIter s (pos + n))) := z3.iter XI.out (by omega)
          have YW1 := Lib.hid (Below.trans XW.out (z2.mono hwB))
          have hs1 : I < y1.heap.size := Nat.lt_of_lt_of_le hsz2 z2.size
          clear z1 z2 z3
          have ZB : Hid (YtldhmfkojaekfaaGreatDoor.Bld B ([34] ++ quotes (a ++ [(R : Int)])) y1) := by
            show YtldhmfkojaekfaaGreatDoor.Bld _ _ _
            rw [hqs, hqr]
            have := YB1.out
            simpa using this
          have ZI := Lib.hid YI1.out
          have ZW := Lib.hid YW1.out
          have hzs := hs1
          clear hqs hqr
          go_wp2_with fail
          go_roundw
          case rel => exact ⟨a ++ [(R : Int)], b, HF.out _ ZB.out ZI.out, by rw [HEL.out]; exact hpn, ZW.out, hzs⟩
          case measure => exact HM.out _ ZI.out
        replace hqr := hqr.trans (if_neg (show ¬ (R : Int) = 13 by omega))
        have t13 : ((R : Int) == 13) = false := by rw [beq_eq_false_iff_ne]; omega
        clear ht13
        by_cases c5 : R < 32 ∨ R = 127
        · have hqr := hqr.trans (if_pos (show (R : Int) < 32 ∨ (R : Int) = 127 by omega))
          have R128 : (R : Int) < 128 := by omega
          have hxt := (hexText_facts R (by omega)).2.2.1
          have hcase : decide ((R : Int) < 32) = true ∨ (decide ((R : Int) < 32) = false ∧ ((R : Int) == 127) = true) := by
            by_cases h : R < 32
            · exact .inl (decide_eq_true (by omega))
            · exact .inr ⟨decide_eq_false (by omega), by rw [ht127]; exact decide_eq_true (by omega)⟩
          have hr128 : R < 128 := by omega
          clear ht127 c5 d34 c34 c10 c9 c13
          rcases hcase with t32 | ⟨t32, t127⟩
          all_goals
            have hesz : (⟨#[92, 117, 123]⟩ ++ ⟨(hexText R).toArray⟩ ++ ⟨#[125]⟩ : ByteArray).size = (hexText R).length + 4 := by
              rw [Lib.size_eq]; simp
            have HX := Lib.hid (hex_any R (by omega) wx (HT.out.keep XW.out).n)
            unfold StrPost at HX
            go_wp2_with fail
            try rw [← HWX.out]
            refine HX.out.mono ?_
            rintro e0 y1 ⟨rfl, hh⟩
            have YB1 : Hid (YtldhmfkojaekfaaGreatDoor.Bld B ([34] ++ quotes a) y1) := Lib.IsBuilderF.below XB.out hh
            have YI1 : Hid (y1.heap[I]? = some (.stringIter s (pos + n))) := by show _ = _; rw [hh.block _ hsz2]; exact XI.out
            have YW1 := Lib.hid (Below.trans XW.out (hh.mono (XW.out).size))
            have hs1 : I < y1.heap.size := Nat.lt_of_lt_of_le hsz2 hh.size
            clear hh
            have HW1 := Lib.hid (YtldhmfkojaekfaaGreatDoor.writeStr B ([34] ++ quotes a) (⟨#[92, 117, 123]⟩ ++ ⟨(hexText R).toArray⟩ ++ ⟨#[125]⟩) y1 YB1.out (by rw [hesz]; omega) (by omega))
            unfold YtldhmfkojaekfaaGreatDoor.WrotePost at HW1
            go_wp2_with fail
            try rw [← HWX.out]
            refine HW1.out.mono ?_
            rintro e0 y2 ⟨rfl, z1, z2, z3⟩
            have YB2 : Hid (YtldhmfkojaekfaaGreatDoor.Bld B (([34] ++ quotes a) ++ ((⟨#[92, 117, 123]⟩ ++ ⟨(hexText R).toArray⟩ ++ ⟨#[125]⟩) : ByteArray).data.toList) y2) := z1
            have YI2 : Hid (y2.heap[I]? = some (.stringIter s (pos + n))) := z3.iter YI1.out (by omega)
            have YW2 := Lib.hid (Below.trans YW1.out (z2.mono hwB))
            have hs2 : I < y2.heap.size := Nat.lt_of_lt_of_le hs1 z2.size
            clear z1 z2 z3
            have ZB : Hid (YtldhmfkojaekfaaGreatDoor.Bld B ([34] ++ quotes (a ++ [(R : Int)])) y2) := by
              show YtldhmfkojaekfaaGreatDoor.Bld _ _ _
              rw [hqs, hqr]
              have := YB2.out
              simpa using this
            have ZI := Lib.hid YI2.out
            have ZW := Lib.hid YW2.out
            have hzs := hs2
            clear hqs hqr
            go_wp2_with fail
            go_roundw
            case rel => exact ⟨a ++ [(R : Int)], b, HF.out _ ZB.out ZI.out, by rw [HEL.out]; exact hpn, ZW.out, hzs⟩
            case measure => exact HM.out _ ZI.out
        · replace hqr := hqr.trans (if_neg (show ¬ ((R : Int) < 32 ∨ (R : Int) = 127) by omega))
          have t32 : decide ((R : Int) < 32) = false := decide_eq_false (by omega)
          have t127 : ((R : Int) == 127) = false := by rw [beq_eq_false_iff_ne]; omega
          clear ht127 c5 d34 c34 c10 c9 c13
          have HW0 := Lib.hid (YtldhmfkojaekfaaGreatDoor.writeRune B ([34] ++ quotes a) (R : Int) (by omega) (by omega) wx XB.out (by omega) (by omega))
          unfold YtldhmfkojaekfaaGreatDoor.WrotePost at HW0
          go_wp2_with fail
          try rw [← HWX.out]
          refine HW0.out.mono ?_
          rintro e0 y1 ⟨rfl, z1, z2, z3⟩
          have YB1 : Hid (YtldhmfkojaekfaaGreatDoor.Bld B (([34] ++ quotes a) ++ Lib.encodeRune (R : Int)) y1) := z1
          have YI1 : Hid (y1.heap[I]? = some (.stringIter s (pos + n))) := z3.iter XI.out (by omega)
          have YW1 := Lib.hid (Below.trans XW.out (z2.mono hwB))
          have hs1 : I < y1.heap.size := Nat.lt_of_lt_of_le hsz2 z2.size
          clear z1 z2 z3
          have ZB : Hid (YtldhmfkojaekfaaGreatDoor.Bld B ([34] ++ quotes (a ++ [(R : Int)])) y1) := by
            show YtldhmfkojaekfaaGreatDoor.Bld _ _ _
            rw [hqs, hqr]
            have := YB1.out
            simpa using this
          have ZI := Lib.hid YI1.out
          have ZW := Lib.hid YW1.out
          have hzs := hs1
          clear hqs hqr
          go_wp2_with fail
          go_roundw
          case rel => exact ⟨a ++ [(R : Int)], b, HF.out _ ZB.out ZI.out, by rw [HEL.out]; exact hpn, ZW.out, hzs⟩
          case measure => exact HM.out _ ZI.out
    · have hnx : ∀ ty, (Instr.next (.pointer (some ⟨I, 0, none⟩)) true ty).run Tryz.prog wr = _ := fun ty => Lib.run_next_end_at wr I s pos ty hit hp
      have hb0 : b = [] := by
        have h1 := HSZ.out
        rw [QA.out, encs_append, List.length_append, ← HPOS.out] at h1
        exact encs_nil (List.eq_nil_of_length_eq_zero (by omega))
      have hra : rs = a := by rw [QA.out, hb0, List.append_nil]
      have HRA := Lib.hid hra
      have HW := Lib.hid (YtldhmfkojaekfaaGreatDoor.writeByte B ([34] ++ quotes a) 34 wr QB.out (by rw [List.length_append]; simp; omega) (by omega))
      unfold YtldhmfkojaekfaaGreatDoor.WrotePost at HW
      rw [show ((34 : UInt8).toNat : Nat) = 34 from rfl] at HW
      clear hb0 hra hq QA hit HPOS
      go_wp2_with fail
      refine HW.out.mono ?_
      rintro e0 y1 ⟨rfl, z1, z2, -⟩
      have HB2 := Lib.hid (YtldhmfkojaekfaaGreatDoor.built B _ y1 z1 (Nat.le_trans (by omega) z2.size))
      have YW := Lib.hid (hbw.out.trans (z2.mono hwB))
      clear z1 z2
      go_wp2_with fail
      refine HB2.out.mono ?_
      rintro e0 y2 ⟨rfl, z2⟩
      have N := Lib.hid (fun S h => HFIN.out S y2 h (YW.out.trans (z2.mono hwB)))
      clear z2
      go_wp2_with fail
      try go_ret2
      exact N.out _ (by rw [HRA.out]; rfl)
end Go.Proofs.YtldhmfkojaekfaaGreatDoor
namespace Go.Proofs.YtldhmfkojaekfaaGreatDoor
open Go.RowKit Gx
set_option maxRecDepth 100000

def BoolB (b : Bool) (w : World) (e : Ending) (w' : World) : Prop := e = .returned (.bool b) ∧ Below w.heap.size w w'
set_option maxHeartbeats 16000000 in
theorem bare_any (s : ByteArray) (w : World) (hs : s.size ≤ 9223372036854775807) : Calls Tryz.prog 77 #[.string s] w (BoolB (bareOf s.data.toList) w) := by
  have hsl := Lib.size_eq s
  rcases Nat.eq_zero_or_pos s.size with zs | ps
  · obtain rfl := bytes_nil zs
    clear zs hsl
    go_enter Tryz.func77, Tryz.ntmps77
    go_wp2_with fail
    try go_ret
    exact ⟨rfl, Below.refl _ _⟩
  obtain ⟨em1, em2⟩ := bytes_em ps
  by_cases hbig : 100 < s.size
  · have e : bareOf s.data.toList = false := by
      unfold bareOf
      rw [decide_eq_false (show ¬ s.data.toList.length ≤ 100 by omega)]; simp
    have tb : decide ((100 : Int) < (s.size : Int)) = true := decide_eq_true (by omega)
    rw [e]
    clear e hsl hbig
    go_enter Tryz.func77, Tryz.ntmps77
    go_wp2_with fail
    try go_ret
    exact ⟨rfl, Below.refl _ _⟩
  have tb : decide ((100 : Int) < (s.size : Int)) = false := decide_eq_false (by omega)
  have hbo : bareOf s.data.toList = (bareFrom true s.data.toList && !wordB s.data.toList) := by
    unfold bareOf
    rw [decide_eq_true (list_ne ps), decide_eq_true (show s.data.toList.length ≤ 100 by omega)]; simp
  rw [hbo]
  obtain ⟨cap, w2, hconv, -, hsz2, hg, hC⟩ := Gx.conv_bytes_run (P := Tryz.prog) w 9 72 5 s Tryz.underlying9 Tryz.underlying72 Tryz.underlying5
  have hb2 : Below w.heap.size w w2 := Gx.grown_below hg (Nat.le_refl _) (by simp)
  have htl : s.toList = s.data.toList := Lib.toList_data s
  have HDR := Lib.hid (fun k h => drop_cons s k h)
  have HNO := Lib.hid (fun (h : bareFrom true s.data.toList = false) => (show BoolB (bareFrom true s.data.toList && !wordB s.data.toList) w (.returned (.bool false)) w2 from ⟨by rw [h]; rfl, hb2⟩))
  have HWD := Lib.hid (fun (h : bareFrom true s.data.toList = true) b (hw : wordB s.data.toList = !b) => (show BoolB (bareFrom true s.data.toList && !wordB s.data.toList) w (.returned (.bool b)) w2 from ⟨by rw [h, hw]; simp, hb2⟩))
  have hd0 : bareFrom (decide (0 = 0)) (s.data.toList.drop 0) = bareFrom true s.data.toList := by rw [List.drop_zero]; rfl
  generalize BoolB (bareFrom true s.data.toList && !wordB s.data.toList) w = POST at *
  have hword : wordB s.data.toList = ((s.toList == [110, 117, 108, 108]) || (s.toList == [116, 114, 117, 101]) || (s.toList == [102, 97, 108, 115, 101]) || (s.toList == [110, 97, 110]) || (s.toList == [105, 110, 102])) := by rw [htl]; rfl
  generalize wordB s.data.toList = WB at *
  generalize bareFrom true s.data.toList = BF at *
  have HD0 := Lib.hid hd0
  have HC := Lib.hid hC
  have HSL := Lib.hid hsl
  have HWB := Lib.hid hword
  have hend : ∀ (k : Nat) b, k = s.size → bareFrom b (s.data.toList.drop k) = true := by
    intro k b hk
    rw [List.drop_eq_nil_of_le (by omega)]; rfl
  have HEND := Lib.hid hend
  clear hbo htl hd0 hC hsl hword hend hg hsz2 hb2 hbig
  go_enter Tryz.func77, Tryz.ntmps77
  go_wp2_with fail
  clear hconv em1 em2
  go_loop [17] (fun iv => ∃ k : Nat, k ≤ s.size ∧ iv = .int .i64 k ∧ Hid (bareFrom (decide (k = 0)) (s.data.toList.drop k) = BF)) (fun iv => s.size - (intOf iv).toNat)
  case atStart => exact ⟨0, Nat.zero_le _, rfl, HD0.out⟩
  case round =>
    obtain ⟨k, hk, rfl, hq⟩ := hrel
    by_cases hlt : k < s.size
    · have c0 := HC.out k hlt
      have hst := hq.out
      rw [HDR.out k hlt, bareFrom] at hst
      have e1 : s.data[k] = s[k] := rfl
      rw [e1] at c0
      have hx256 := UInt8.toNat_lt s[k]
      obtain ⟨x, hx⟩ : ∃ x : Nat, x = s[k].toNat := ⟨_, rfl⟩
      rw [← hx] at c0 hst hx256
      have hz : Hid (bareFrom false (s.data.toList.drop (k + 1)) = bareFrom (decide (k + 1 = 0)) (s.data.toList.drop (k + 1))) := by
        show _ = _
        rw [decide_eq_false (by omega)]
      clear e1 hx hq
      have hcl : x < 45 ∨ x = 45 ∨ (46 ≤ x ∧ x ≤ 47) ∨ (48 ≤ x ∧ x ≤ 57) ∨ (58 ≤ x ∧ x ≤ 64) ∨ (65 ≤ x ∧ x ≤ 90) ∨ (91 ≤ x ∧ x ≤ 94) ∨ x = 95 ∨ x = 96 ∨ (97 ≤ x ∧ x ≤ 122) ∨ 123 ≤ x := by omega
      rcases hcl with hc | hc | hc | hc | hc | hc | hc | hc | hc | hc | hc
      · have t1 : decide ((97 : Int) ≤ (x : Int)) = false := decide_eq_false (by omega)
        have t3 : decide ((65 : Int) ≤ (x : Int)) = false := decide_eq_false (by omega)
        have t5 : ((x : Int) == 95) = false := by rw [beq_eq_false_iff_ne]; omega
        have t6 : decide ((48 : Int) ≤ (x : Int)) = false := decide_eq_false (by omega)
        have t8 : ((x : Int) == 45) = false := by rw [beq_eq_false_iff_ne]; omega
        have hlet : letterB x = false := by unfold letterB; simp; omega
        have hmor : moreB x = false := by unfold moreB; simp; omega
        rw [hlet, hmor] at hst
        clear hlet hmor hc
        have N := Lib.hid (HNO.out (by rw [← hst]; simp))
        clear hst hz
        go_wp2_with fail
        try go_ret
        exact N.out
      · have t1 : decide ((97 : Int) ≤ (x : Int)) = false := decide_eq_false (by omega)
        have t3 : decide ((65 : Int) ≤ (x : Int)) = false := decide_eq_false (by omega)
        have t5 : ((x : Int) == 95) = false := by rw [beq_eq_false_iff_ne]; omega
        have t6 : decide ((48 : Int) ≤ (x : Int)) = false := decide_eq_false (by omega)
        have t8 : ((x : Int) == 45) = true := by rw [beq_iff_eq]; omega
        have hlet : letterB x = false := by unfold letterB; simp; omega
        have hmor : moreB x = true := by unfold moreB; simp; omega
        rw [hlet, hmor] at hst
        clear hlet hmor hc
        by_cases hk0 : k = 0
        · subst hk0
          have N := Lib.hid (HNO.out (by rw [← hst]; rfl))
          clear hst hz
          go_wp2_with fail
          try go_ret
          exact N.out
        · have hn : Hid (bareFrom (decide (k + 1 = 0)) (s.data.toList.drop (k + 1)) = BF) := by
            show _ = _
            rw [← hz.out]
            rw [decide_eq_false hk0] at hst
            simpa using hst
          have tk : ((k : Int) == 0) = false := by rw [beq_eq_false_iff_ne]; omega
          have tk2 : decide ((k : Int) = 0) = false := decide_eq_false (by omega)
          clear hst hz
          go_wp2_with fail
          go_round
          case rel => exact ⟨k + 1, by omega, by go_num, hn.out⟩
          case measure => simp [intOf]; omega
      · have t1 : decide ((97 : Int) ≤ (x : Int)) = false := decide_eq_false (by omega)
        have t3 : decide ((65 : Int) ≤ (x : Int)) = false := decide_eq_false (by omega)
        have t5 : ((x : Int) == 95) = false := by rw [beq_eq_false_iff_ne]; omega
        have t6 : decide ((48 : Int) ≤ (x : Int)) = false := decide_eq_false (by omega)
        have t8 : ((x : Int) == 45) = false := by rw [beq_eq_false_iff_ne]; omega
        have hlet : letterB x = false := by unfold letterB; simp; omega
        have hmor : moreB x = false := by unfold moreB; simp; omega
        rw [hlet, hmor] at hst
        clear hlet hmor hc
        have N := Lib.hid (HNO.out (by rw [← hst]; simp))
        clear hst hz
        go_wp2_with fail
        try go_ret
        exact N.out
      · have t1 : decide ((97 : Int) ≤ (x : Int)) = false := decide_eq_false (by omega)
        have t3 : decide ((65 : Int) ≤ (x : Int)) = false := decide_eq_false (by omega)
        have t5 : ((x : Int) == 95) = false := by rw [beq_eq_false_iff_ne]; omega
        have t6 : decide ((48 : Int) ≤ (x : Int)) = true := decide_eq_true (by omega)
        have t7 : decide ((x : Int) ≤ 57) = true := decide_eq_true (by omega)
        have hlet : letterB x = false := by unfold letterB; simp; omega
        have hmor : moreB x = true := by unfold moreB; simp; omega
        rw [hlet, hmor] at hst
        clear hlet hmor hc
        by_cases hk0 : k = 0
        · subst hk0
          have N := Lib.hid (HNO.out (by rw [← hst]; rfl))
          clear hst hz
          go_wp2_with fail
          try go_ret
          exact N.out
        · have hn : Hid (bareFrom (decide (k + 1 = 0)) (s.data.toList.drop (k + 1)) = BF) := by
            show _ = _
            rw [← hz.out]
            rw [decide_eq_false hk0] at hst
            simpa using hst
          have tk : ((k : Int) == 0) = false := by rw [beq_eq_false_iff_ne]; omega
          have tk2 : decide ((k : Int) = 0) = false := decide_eq_false (by omega)
          clear hst hz
          go_wp2_with fail
          go_round
          case rel => exact ⟨k + 1, by omega, by go_num, hn.out⟩
          case measure => simp [intOf]; omega
      · have t1 : decide ((97 : Int) ≤ (x : Int)) = false := decide_eq_false (by omega)
        have t3 : decide ((65 : Int) ≤ (x : Int)) = false := decide_eq_false (by omega)
        have t5 : ((x : Int) == 95) = false := by rw [beq_eq_false_iff_ne]; omega
        have t6 : decide ((48 : Int) ≤ (x : Int)) = true := decide_eq_true (by omega)
        have t7 : decide ((x : Int) ≤ 57) = false := decide_eq_false (by omega)
        have t8 : ((x : Int) == 45) = false := by rw [beq_eq_false_iff_ne]; omega
        have hlet : letterB x = false := by unfold letterB; simp; omega
        have hmor : moreB x = false := by unfold moreB; simp; omega
        rw [hlet, hmor] at hst
        clear hlet hmor hc
        have N := Lib.hid (HNO.out (by rw [← hst]; simp))
        clear hst hz
        go_wp2_with fail
        try go_ret
        exact N.out
      · have t1 : decide ((97 : Int) ≤ (x : Int)) = false := decide_eq_false (by omega)
        have t3 : decide ((65 : Int) ≤ (x : Int)) = true := decide_eq_true (by omega)
        have t4 : decide ((x : Int) ≤ 90) = true := decide_eq_true (by omega)
        have t6 : decide ((48 : Int) ≤ (x : Int)) = true := decide_eq_true (by omega)
        have t7 : decide ((x : Int) ≤ 57) = false := decide_eq_false (by omega)
        have t8 : ((x : Int) == 45) = false := by rw [beq_eq_false_iff_ne]; omega
        have hlet : letterB x = true := by unfold letterB; simp; omega
        have hmor : moreB x = false := by unfold moreB; simp; omega
        rw [hlet, hmor] at hst
        clear hlet hmor hc
        have hn : Hid (bareFrom (decide (k + 1 = 0)) (s.data.toList.drop (k + 1)) = BF) := by
          show _ = _
          rw [← hz.out]; simpa using hst
        clear hst hz
        go_wp2_with fail
        go_round
        case rel => exact ⟨k + 1, by omega, by go_num, hn.out⟩
        case measure => simp [intOf]; omega
      · have t1 : decide ((97 : Int) ≤ (x : Int)) = false := decide_eq_false (by omega)
        have t3 : decide ((65 : Int) ≤ (x : Int)) = true := decide_eq_true (by omega)
        have t4 : decide ((x : Int) ≤ 90) = false := decide_eq_false (by omega)
        have t5 : ((x : Int) == 95) = false := by rw [beq_eq_false_iff_ne]; omega
        have t6 : decide ((48 : Int) ≤ (x : Int)) = true := decide_eq_true (by omega)
        have t7 : decide ((x : Int) ≤ 57) = false := decide_eq_false (by omega)
        have t8 : ((x : Int) == 45) = false := by rw [beq_eq_false_iff_ne]; omega
        have hlet : letterB x = false := by unfold letterB; simp; omega
        have hmor : moreB x = false := by unfold moreB; simp; omega
        rw [hlet, hmor] at hst
        clear hlet hmor hc
        have N := Lib.hid (HNO.out (by rw [← hst]; simp))
        clear hst hz
        go_wp2_with fail
        try go_ret
        exact N.out
      · have t1 : decide ((97 : Int) ≤ (x : Int)) = false := decide_eq_false (by omega)
        have t3 : decide ((65 : Int) ≤ (x : Int)) = true := decide_eq_true (by omega)
        have t4 : decide ((x : Int) ≤ 90) = false := decide_eq_false (by omega)
        have t5 : ((x : Int) == 95) = true := by rw [beq_iff_eq]; omega
        have t6 : decide ((48 : Int) ≤ (x : Int)) = true := decide_eq_true (by omega)
        have t7 : decide ((x : Int) ≤ 57) = false := decide_eq_false (by omega)
        have t8 : ((x : Int) == 45) = false := by rw [beq_eq_false_iff_ne]; omega
        have hlet : letterB x = true := by unfold letterB; simp; omega
        have hmor : moreB x = false := by unfold moreB; simp; omega
        rw [hlet, hmor] at hst
        clear hlet hmor hc
        have hn : Hid (bareFrom (decide (k + 1 = 0)) (s.data.toList.drop (k + 1)) = BF) := by
          show _ = _
          rw [← hz.out]; simpa using hst
        clear hst hz
        go_wp2_with fail
        go_round
        case rel => exact ⟨k + 1, by omega, by go_num, hn.out⟩
        case measure => simp [intOf]; omega
      · have t1 : decide ((97 : Int) ≤ (x : Int)) = false := decide_eq_false (by omega)
        have t3 : decide ((65 : Int) ≤ (x : Int)) = true := decide_eq_true (by omega)
        have t4 : decide ((x : Int) ≤ 90) = false := decide_eq_false (by omega)
        have t5 : ((x : Int) == 95) = false := by rw [beq_eq_false_iff_ne]; omega
        have t6 : decide ((48 : Int) ≤ (x : Int)) = true := decide_eq_true (by omega)
        have t7 : decide ((x : Int) ≤ 57) = false := decide_eq_false (by omega)
        have t8 : ((x : Int) == 45) = false := by rw [beq_eq_false_iff_ne]; omega
        have hlet : letterB x = false := by unfold letterB; simp; omega
        have hmor : moreB x = false := by unfold moreB; simp; omega
        rw [hlet, hmor] at hst
        clear hlet hmor hc
        have N := Lib.hid (HNO.out (by rw [← hst]; simp))
        clear hst hz
        go_wp2_with fail
        try go_ret
        exact N.out
      · have t1 : decide ((97 : Int) ≤ (x : Int)) = true := decide_eq_true (by omega)
        have t2 : decide ((x : Int) ≤ 122) = true := decide_eq_true (by omega)
        have t6 : decide ((48 : Int) ≤ (x : Int)) = true := decide_eq_true (by omega)
        have t7 : decide ((x : Int) ≤ 57) = false := decide_eq_false (by omega)
        have t8 : ((x : Int) == 45) = false := by rw [beq_eq_false_iff_ne]; omega
        have hlet : letterB x = true := by unfold letterB; simp; omega
        have hmor : moreB x = false := by unfold moreB; simp; omega
        rw [hlet, hmor] at hst
        clear hlet hmor hc
        have hn : Hid (bareFrom (decide (k + 1 = 0)) (s.data.toList.drop (k + 1)) = BF) := by
          show _ = _
          rw [← hz.out]; simpa using hst
        clear hst hz
        go_wp2_with fail
        go_round
        case rel => exact ⟨k + 1, by omega, by go_num, hn.out⟩
        case measure => simp [intOf]; omega
      · have t1 : decide ((97 : Int) ≤ (x : Int)) = true := decide_eq_true (by omega)
        have t2 : decide ((x : Int) ≤ 122) = false := decide_eq_false (by omega)
        have t3 : decide ((65 : Int) ≤ (x : Int)) = true := decide_eq_true (by omega)
        have t4 : decide ((x : Int) ≤ 90) = false := decide_eq_false (by omega)
        have t5 : ((x : Int) == 95) = false := by rw [beq_eq_false_iff_ne]; omega
        have t6 : decide ((48 : Int) ≤ (x : Int)) = true := decide_eq_true (by omega)
        have t7 : decide ((x : Int) ≤ 57) = false := decide_eq_false (by omega)
        have t8 : ((x : Int) == 45) = false := by rw [beq_eq_false_iff_ne]; omega
        have hlet : letterB x = false := by unfold letterB; simp; omega
        have hmor : moreB x = false := by unfold moreB; simp; omega
        rw [hlet, hmor] at hst
        clear hlet hmor hc
        have N := Lib.hid (HNO.out (by rw [← hst]; simp))
        clear hst hz
        go_wp2_with fail
        try go_ret
        exact N.out
    · have hbf : BF = true := by rw [← hq.out]; exact HEND.out k _ (by omega)
      have HW2 := Lib.hid (HWD.out hbf)
      clear hq hbf
      have hwb := HWB.out
      cases c0 : (s.toList == [110, 117, 108, 108]) with
      | true =>
        have N := Lib.hid (HW2.out false (by rw [hwb, c0]; simp))
        clear hwb
        go_wp2_with fail
        try go_ret
        exact N.out
      | false =>
        cases c1 : (s.toList == [116, 114, 117, 101]) with
        | true =>
          have N := Lib.hid (HW2.out false (by rw [hwb, c0, c1]; simp))
          clear hwb
          go_wp2_with fail
          try go_ret
          exact N.out
        | false =>
          cases c2 : (s.toList == [102, 97, 108, 115, 101]) with
          | true =>
            have N := Lib.hid (HW2.out false (by rw [hwb, c0, c1, c2]; simp))
            clear hwb
            go_wp2_with fail
            try go_ret
            exact N.out
          | false =>
            cases c3 : (s.toList == [110, 97, 110]) with
            | true =>
              have N := Lib.hid (HW2.out false (by rw [hwb, c0, c1, c2, c3]; simp))
              clear hwb
              go_wp2_with fail
              try go_ret
              exact N.out
            | false =>
              cases c4 : (s.toList == [105, 110, 102]) with
              | true =>
                have N := Lib.hid (HW2.out false (by rw [hwb, c0, c1, c2, c3, c4]; simp))
                clear hwb
                go_wp2_with fail
                try go_ret
                exact N.out
              | false =>
                have N := Lib.hid (HW2.out true (by rw [hwb, c0, c1, c2, c3, c4]; rfl))
                clear hwb
                go_wp2_with fail
                try go_ret
                exact N.out

set_option maxHeartbeats 1000000 in
theorem key_bare (s : ByteArray) (w : World) (hs : s.size ≤ 100000000) (hb : bareOf s.data.toList = true) : Calls Tryz.prog 60 #[.string s] w fun e w' => e = .returned (.tuple #[.string s, .int .i64 0]) ∧ Below w.heap.size w w' := by
  have h := bare_any s w (by omega)
  rw [hb] at h
  have H := Lib.hid h
  unfold BoolB at H
  clear h hb
  go_enter Tryz.func60, Tryz.ntmps60
  go_wp2_with fail
  refine H.out.mono ?_
  rintro e0 w1 ⟨rfl, hb⟩
  have B := Lib.hid hb
  clear hb
  go_wp2_with fail
  try go_ret2
  exact ⟨rfl, B.out⟩
set_option maxHeartbeats 1000000 in
theorem key_quote (s : ByteArray) (x : List UInt8) (c : Int) (w : World) (hs : s.size ≤ 100000000) (hT : QTabs w) (hb : bareOf s.data.toList = false) (hq : ∀ w0, QTabs w0 → Calls Tryz.prog 94 #[.string s] w0 (StrErr x c w0)) :
    Calls Tryz.prog 60 #[.string s] w (StrErr x c w) := by
  have h := bare_any s w (by omega)
  rw [hb] at h
  have H := Lib.hid h
  unfold BoolB at H
  have HQ := Lib.hid hq
  have HT := Lib.hid hT
  clear h hb hq hT
  go_enter Tryz.func60, Tryz.ntmps60
  go_wp2_with fail
  refine H.out.mono ?_
  rintro e0 w1 ⟨rfl, hb⟩
  have Q := Lib.hid (HQ.out w1 (HT.out.keep hb))
  unfold StrErr at Q
  have B := Lib.hid hb
  clear hb
  go_wp2_with fail
  refine Q.out.mono ?_
  rintro e0 w2 ⟨rfl, hb⟩
  have B2 := Lib.hid (B.out.trans (hb.mono B.out.size))
  clear hb
  go_wp2_with fail
  try go_ret2
  exact ⟨rfl, B2.out⟩
end Go.Proofs.YtldhmfkojaekfaaGreatDoor
