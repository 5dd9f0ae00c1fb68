/-
  The contract of esc.Unquote. Conditions: the library's tables and the variable strconv.ErrSyntax lie in the world; the text has at most 2^47 - 4096 bytes.
-/
import Derived.Test.YtopfkelhgffomaaDoorEscape
import Derived.Test.YtopfkelhgffomaaDoorUtf8Walk
import Derived.Test.YtopfkelhgffomaaDoorBld
import Derived.Shelf.Strings.MapGrows
namespace Go.Proofs.YtopfkelhgffomaaDoor
open Go.RowKit Gx
set_option maxRecDepth 100000

structure ETabs (w : World) : Prop where
  u : Tabs w
  n : NTabs w
  e : ErrVar w
theorem ETabs.keep {w w' : World} (h : ETabs w) (hb : Below w.heap.size w w') : ETabs w' := ⟨h.u.keep hb, h.n.keep hb, h.e.keep hb⟩

def UnqPost (l : List UInt8) (w : World) (e : Ending) (w' : World) : Prop :=
  (∃ rs n, unquote l = some (rs, n) ∧ e = .returned (.tuple #[.string ⟨(encs rs).toArray⟩, .int .i64 (n : Nat), .int .i64 0]) ∧ Below w.heap.size w w') ∨
  (unquote l = none ∧ ∃ c : Int, c ≠ 0 ∧ e = .returned (.tuple #[.string ⟨#[]⟩, .int .i64 0, .int .i64 c]) ∧ Below w.heap.size w w')

def joinU (acc : List Int) (n : Nat) (x : Option (List Int × Nat)) : Option (List Int × Nat) := x.map fun p => (acc ++ p.1, n + p.2)
theorem joinU_more (acc : List Int) (a n : Nat) (r : Int) (x : Option (List Int × Nat)) : joinU acc a (more r n x) = joinU (acc ++ [r]) (a + n) x := by
  cases x with
  | none => rfl
  | some p => simp [joinU, more]; omega
theorem unqF_end (f : Nat) : unqF f [] = none := by cases f <;> rfl
theorem unqF_cons (f : Nat) (b : UInt8) (t : List UInt8) : unqF (f + 1) (b :: t) =
    if b = 34 then some ([], 1)
    else if b = 10 then none
    else if b = 92 then
      match escOf t with
      | none => none
      | some (r, n) => more r (1 + n) (unqF f (t.drop n))
    else if Lib.decodeL (b :: t) = (65533, 1) then none
    else more ((Lib.decodeL (b :: t)).1 : Int) (Lib.decodeL (b :: t)).2 (unqF f ((b :: t).drop (Lib.decodeL (b :: t)).2)) := by
  conv => lhs; unfold unqF
  rfl

theorem uOf_len {s : List UInt8} {r : Int} {n : Nat} (h : uOf s = some (r, n)) : 4 ≤ n := by
  unfold uOf at h
  split at h
  · split at h
    · cases h
    · split at h
      · cases h
      · split at h
        · obtain ⟨-, rfl⟩ := Prod.mk.inj (Option.some.inj h); omega
        · cases h
  · cases h
theorem escOf_len {s : List UInt8} {r : Int} {n : Nat} (h : escOf s = some (r, n)) : (Lib.encodeRune r).length ≤ 1 + n := by
  have h4 := (enc_len r).2
  unfold escOf at h
  split at h
  · cases h
  split at h
  · rename_i hc
    obtain ⟨rfl, rfl⟩ := Prod.mk.inj (Option.some.inj h)
    rcases hc with rfl | rfl | rfl <;> decide
  split at h
  · obtain ⟨rfl, rfl⟩ := Prod.mk.inj (Option.some.inj h); decide
  split at h
  · obtain ⟨rfl, rfl⟩ := Prod.mk.inj (Option.some.inj h); decide
  split at h
  · obtain ⟨rfl, rfl⟩ := Prod.mk.inj (Option.some.inj h); decide
  · have := uOf_len h; omega
theorem decode_enc_len {l : List UInt8} (hne : l ≠ []) (h : Lib.decodeL l ≠ (65533, 1)) : (Lib.encodeRune ((Lib.decodeL l).1 : Int)).length = (Lib.decodeL l).2 := by
  have he := Lib.encode_decode l hne (fun h2 => h (Prod.ext h2.1 h2.2))
  rw [he, List.length_take, Nat.min_eq_left (decode_len l hne)]

set_option maxHeartbeats 8000000 in
theorem unquote_any (s : ByteArray) (w : World) (hT : ETabs w) (hs : s.size ≤ 140737488351232) : Calls Tryd.prog 20 #[.string s] w (UnqPost s.data.toList w) := by
  have HYES := Lib.hid (fun rs n w' (h : unquote s.data.toList = some (rs, n)) (hb : Below w.heap.size w w') => (show UnqPost s.data.toList w (.returned (.tuple #[.string ⟨(encs rs).toArray⟩, .int .i64 (n : Nat), .int .i64 0])) w' from .inl ⟨rs, n, h, rfl, hb⟩))
  have HNO := Lib.hid (fun (c : Int) w' (hc : c ≠ 0) (h : unquote s.data.toList = none) (hb : Below w.heap.size w w') => (show UnqPost s.data.toList w (.returned (.tuple #[.string ⟨#[]⟩, .int .i64 0, .int .i64 c])) w' from .inr ⟨h, c, hc, rfl, hb⟩))
  have hsl := Lib.size_eq s
  have hU : Lib.hasPrefix s.data.toList [34] = true → joinU [] 1 (unqF s.size (s.data.toList.drop 1)) = unquote s.data.toList := by
    intro h
    unfold unquote joinU
    rw [if_pos h, hsl]
    congr 1
    funext p
    simp; omega
  have hN : Lib.hasPrefix s.data.toList [34] = false → unquote s.data.toList = none := by
    intro h
    unfold unquote
    rw [h]; rfl
  have hne : Lib.hasPrefix s.data.toList [34] = true → 1 ≤ s.size := by
    intro h
    rcases Nat.eq_zero_or_pos s.size with h0 | h0
    · rw [list_nil h0] at h; cases h
    · exact h0
  have HP := Lib.hid (Tryd.strings_HasPrefix s ⟨#[34]⟩ w)
  rw [show (⟨#[34]⟩ : ByteArray).data.toList = [34] from rfl] at HP
  generalize UnqPost s.data.toList w = POST at *
  generalize unquote s.data.toList = U at *
  generalize Lib.hasPrefix s.data.toList [34] = hp at *
  have HT := Lib.hid hT
  have HU := Lib.hid hU
  have HN := Lib.hid hN
  have HNE := Lib.hid hne
  obtain ⟨l, hl⟩ : ∃ l, l = s.data.toList := ⟨_, rfl⟩
  have HCO := Lib.hid (fun k h => drop_cons s k h)
  rw [← hl] at HU HCO hsl
  have HL := Lib.hid hl
  have HSL := Lib.hid hsl
  clear hU hN hne hT hl hsl
  go_enter Tryd.func20, Tryd.ntmps20
  go_wp2_with fail
  refine HP.out.mono ?_
  rintro e0 w1 ⟨rfl, rfl⟩
  cases hp with
  | false =>
    have N := Lib.hid (HNO.out 4 w1 (by decide) (HN.out rfl) (Below.refl _ _))
    go_wp2_with fail
    try go_ret3
    exact N.out
  | true =>
    have h1 := HNE.out rfl
    have hj := HU.out rfl
    have HJ := Lib.hid hj
    have hfr := YtopfkelhgffomaaDoor.fresh w1
    have HFR := Lib.hid hfr
    clear hj hfr HN HU HNE HP
    go_wp2_with fail
    go_loopw [6] (fun iv wr => ∃ (k f : Nat) (acc : List Int), iv = .int .i64 k ∧ k ≤ s.size ∧ s.size ≤ k + f ∧ (encs acc).length ≤ k ∧ Hid (joinU acc k (unqF f (l.drop k)) = U) ∧ Hid (YtopfkelhgffomaaDoor.Bld w1.heap.size (encs acc) wr) ∧ Below w1.heap.size w1 wr) (fun iv _ => s.size - (intOf iv).toNat)
    case atStart => exact ⟨1, s.size, [], rfl, h1, by omega, by decide, HJ.out, HFR.out, (Below.refl _ _).alloc (Nat.le_refl _) _⟩
    case round =>
      obtain ⟨k, f, acc, rfl, hk, hf, hal, hq, hB, hb⟩ := hrel
      obtain ⟨k0, k1⟩ : 0 ≤ (k : Int) ∧ (k : Int) ≤ (s.size : Int) := by omega
      by_cases hlt : k < s.size
      · obtain ⟨g, rfl⟩ : ∃ g, f = g + 1 := ⟨f - 1, by omega⟩
        have hco := HCO.out k hlt
        have hst := hq.out
        rw [hco, unqF_cons] at hst
        obtain ⟨k2, k3⟩ : 0 ≤ (k : Int) + 1 ∧ (k : Int) + 1 ≤ (s.size : Int) := by omega
        by_cases b34 : s[k] = 34
        · rw [if_pos b34] at hst
          have y1 := (byte_y s[k] 34 34 rfl b34).1
          have N := Lib.hid (fun w' hb => HYES.out acc (k + 1) w' (by rw [← hst]; simp [joinU]) hb)
          have HBU := Lib.hid (YtopfkelhgffomaaDoor.built w1.heap.size (encs acc) wr hB.out hb.size)
          have B1 := Lib.hid hb
          clear hst hco b34 hq hB hb
          go_wp2_with fail
          refine HBU.out.mono ?_
          rintro e0 w2 ⟨rfl, hb2⟩
          have NN := Lib.hid (N.out w2 (B1.out.trans hb2))
          clear hb2
          go_wp2_with fail
          try go_ret3
          exact NN.out
        rw [if_neg b34] at hst
        have n1 := (byte_n s[k] 34 34 rfl b34).1
        by_cases b10 : s[k] = 10
        · rw [if_pos b10] at hst
          have y1 := (byte_y s[k] 10 10 rfl b10).1
          have N := Lib.hid (HNO.out 4 wr (by decide) hst.symm hb)
          clear hst hco b34 b10 hq hB hb
          go_wp2_with fail
          try go_ret3
          exact N.out
        rw [if_neg b10] at hst
        have n2 := (byte_n s[k] 10 10 rfl b10).1
        by_cases b92 : s[k] = 92
        · rw [if_pos b92] at hst
          have y1 := (byte_y s[k] 92 92 rfl b92).1
          have HX := Lib.hid (fun w0 (h : ErrVar w0) => escape_any (s.extract (k + 1) s.size) w0 (by simp; omega) h)
          unfold EscPost at HX
          rw [Lib.extract_to_end, ← HL.out] at HX
          have heg := fun r n h => escOf_good (s := l.drop (k + 1)) (r := r) (n := n) h
          rw [List.length_drop, ← HSL.out] at heg
          have HEG := Lib.hid heg
          have HX2 := Lib.hid (HX.out wr (HT.out.keep hb).e)
          have HST := Lib.hid hst
          have B1 := Lib.hid hb
          clear hst hco b34 b10 b92 hq hb heg HX
          go_wp2_with fail
          refine HX2.out.mono ?_
          rintro e0 w2 (⟨r, n, he, rfl, hb2⟩ | ⟨he, c, hc, rfl, hb2⟩)
          · obtain ⟨g1, g2, g3⟩ := HEG.out r n he
            have hst := HST.out
            rw [he] at hst
            simp only at hst
            rw [joinU_more, List.drop_drop] at hst
            have hst2 := Lib.hid hst
            rw [good_iff] at g1
            obtain ⟨r0, r1, -⟩ := g1
            have hB2 : YtopfkelhgffomaaDoor.Bld w1.heap.size (encs acc) w2 := Lib.IsBuilderF.below hB.out hb2
            have HW := Lib.hid (YtopfkelhgffomaaDoor.writeRune w1.heap.size (encs acc) r (by omega) (by omega) w2 hB2 (by omega) (Nat.le_trans B1.out.size hb2.size))
            unfold YtopfkelhgffomaaDoor.WrotePost at HW
            have B2 := Lib.hid (B1.out.trans (hb2.mono B1.out.size))
            have hen := escOf_len he
            clear hst he hb2 hB2 HST HEG hB
            go_wp2_with fail
            refine HW.out.mono ?_
            rintro e0 w3 ⟨rfl, hB3, hb3, -⟩
            have B3 := Lib.hid (B2.out.trans hb3)
            have hB4 : Hid (YtopfkelhgffomaaDoor.Bld w1.heap.size (encs (acc ++ [r])) w3) := by
              show YtopfkelhgffomaaDoor.Bld _ _ _
              rw [encs_append]
              simpa [encs] using hB3
            have hl4 : (encs (acc ++ [r])).length ≤ k + (1 + n) := by
              rw [encs_append, List.length_append]
              simp [encs] at hal ⊢
              omega
            have hst3 : Hid (joinU (acc ++ [r]) (k + (1 + n)) (unqF g (l.drop (k + (1 + n)))) = U) := by
              show _ = _
              rw [← hst2.out, show k + 1 + n = k + (1 + n) by omega]
            clear hb3 hB3 hst2
            go_wp2_with fail
            go_roundw
            case rel => exact ⟨k + (1 + n), g, acc ++ [r], by congr 1 <;> omega, by omega, by omega, hl4, hst3, hB4, B3.out⟩
            case measure => simp [intOf]; omega
          · have hst := HST.out
            rw [he] at hst
            have N := Lib.hid (HNO.out c w2 hc hst.symm (B1.out.trans (hb2.mono B1.out.size)))
            have tc : (c != 0) = true := by rw [bne_iff_ne]; exact hc
            clear hst he hb2 HST HEG hB hc
            go_wp2_with fail
            try go_ret3
            exact N.out
        · rw [if_neg b92] at hst
          have n3 := (byte_n s[k] 92 92 rfl b92).1
          have hne : l.drop k ≠ [] := by rw [hco]; simp
          rw [← hco] at hst
          have HX := Lib.hid (fun w0 (h : Tabs w0) => next_full (s.extract k s.size) w0 h)
          unfold NextFull at HX
          rw [Lib.extract_to_end, ← HL.out] at HX
          have hdec : dec (l.drop k) = Lib.decodeL (l.drop k) := by unfold dec; rw [if_neg hne]
          have hp := decodeL_pos (l.drop k)
          have hle := decode_len (l.drop k) hne
          rw [List.length_drop, ← HSL.out] at hle
          have hg := Lib.decodeN_valid (l.drop k).length ((l.drop k).getD 0 0).toNat ((l.drop k).getD 1 0).toNat ((l.drop k).getD 2 0).toNat ((l.drop k).getD 3 0).toNat (UInt8.toNat_lt _)
          rw [← Lib.decodeL_N] at hg
          have HX2 := HX.out wr (HT.out.keep hb).u
          unfold nextR at HX2
          rw [hdec] at HX2
          obtain ⟨r, hr⟩ : ∃ r, r = (Lib.decodeL (l.drop k)).1 := ⟨_, rfl⟩
          obtain ⟨n, hn⟩ : ∃ n, n = (Lib.decodeL (l.drop k)).2 := ⟨_, rfl⟩
          have hpair : Lib.decodeL (l.drop k) = (r, n) := by rw [hr, hn]
          have hlen0 := fun h => decode_enc_len hne h
          rw [hpair] at hlen0
          rw [hpair] at HX2 hst
          rw [← hn] at hp hle
          rw [← hr] at hg
          simp only at HX2 hst
          have B1 := Lib.hid hb
          by_cases hbad : r = 65533 ∧ n = 1
          · rw [if_pos (by rw [hbad.1, hbad.2])] at hst
            rw [if_pos ⟨hbad.1, by omega⟩] at HX2
            have HX3 := Lib.hid HX2
            have N0 : Hid (U = none) := hst.symm
            clear HX2 hst hco b34 b10 b92 hq hb HX hne hdec hp hle hg hr hn hpair hlen0
            go_wp2_with fail
            refine HX3.out.mono ?_
            rintro e0 w2 ⟨rfl, hb2⟩
            have N := Lib.hid (HNO.out 3 w2 (by decide) N0.out (B1.out.trans (hb2.mono B1.out.size)))
            clear hb2
            go_wp2_with fail
            try go_ret3
            exact N.out
          · rw [if_neg (by intro h; exact hbad (Prod.mk.inj h))] at hst
            rw [if_neg (by rintro ⟨h1, h2⟩; exact hbad ⟨h1, by omega⟩)] at HX2
            rw [joinU_more, List.drop_drop] at hst
            have hst2 := Lib.hid hst
            have HX3 := Lib.hid HX2
            have HLEN := Lib.hid (hlen0 (by intro h; exact hbad (Prod.mk.inj h)))
            clear HX2 hst hco b34 b10 b92 hq hb HX hne hdec hr hn hpair hbad hlen0
            have r0 : 0 ≤ (r : Int) := by omega
            go_wp2_with fail
            refine HX3.out.mono ?_
            rintro e0 w2 ⟨rfl, hb2⟩
            have hB2 : YtopfkelhgffomaaDoor.Bld w1.heap.size (encs acc) w2 := Lib.IsBuilderF.below hB.out hb2
            have HW := Lib.hid (YtopfkelhgffomaaDoor.writeRune w1.heap.size (encs acc) (r : Int) (by omega) (by omega) w2 hB2 (by omega) (Nat.le_trans B1.out.size hb2.size))
            unfold YtopfkelhgffomaaDoor.WrotePost at HW
            have B2 := Lib.hid (B1.out.trans (hb2.mono B1.out.size))
            have hen := Nat.le_of_eq HLEN.out
            clear hb2 hB2 hB
            go_wp2_with fail
            refine HW.out.mono ?_
            rintro e0 w3 ⟨rfl, hB3, hb3, -⟩
            have B3 := Lib.hid (B2.out.trans hb3)
            have hB4 : Hid (YtopfkelhgffomaaDoor.Bld w1.heap.size (encs (acc ++ [(r : Int)])) w3) := by
              show YtopfkelhgffomaaDoor.Bld _ _ _
              rw [encs_append]
              simpa [encs] using hB3
            have hl4 : (encs (acc ++ [(r : Int)])).length ≤ k + n := by
              rw [encs_append, List.length_append]
              simp [encs] at hal ⊢
              omega
            clear hb3 hB3
            go_wp2_with fail
            go_roundw
            case rel => exact ⟨k + n, g, acc ++ [(r : Int)], by congr 1 <;> omega, by omega, by omega, hl4, hst2.out, hB4, B3.out⟩
            case measure => simp [intOf]; omega
      · have hst := hq.out
        rw [List.drop_eq_nil_of_le (by have := HSL.out; omega), unqF_end] at hst
        have N := Lib.hid (HNO.out 4 wr (by decide) hst.symm hb)
        clear hst hq hB hb
        go_wp2_with fail
        try go_ret3
        exact N.out
end Go.Proofs.YtopfkelhgffomaaDoor
