/-
  The contract of esc.Quote. Conditions: the library's tables lie in the world; the text has at most 10^8 bytes.
-/
import Derived.Test.YtopfkelhgffomaaDoorUnquote
import Derived.Lib.OthersKept
namespace Go.Proofs.YtopfkelhgffomaaDoor
open Go.RowKit Gx
set_option maxRecDepth 100000

def StrErr (x : List UInt8) (c : Int) (w : World) (e : Ending) (w' : World) : Prop := e = .returned (.tuple #[.string ⟨x.toArray⟩, .int .i64 c]) ∧ Below w.heap.size w w'
theorem quotes_snoc (a : List Int) (r : Int) : quotes (a ++ [r]) = quotes a ++ quoteR r := by unfold quotes; rw [List.flatMap_append]; simp
theorem encs_snoc (a : List Int) (r : Int) : encs (a ++ [r]) = encs a ++ Lib.encodeRune r := by rw [encs_append]; simp [encs]
/-- where the text is left: the runes told, those to tell, the iterator, the builder -/
def QI (B I : Nat) (s : ByteArray) (rs a b : List Int) (wr : World) : Prop := rs = a ++ b ∧ YtopfkelhgffomaaDoor.Bld B ([34] ++ quotes a) wr ∧ wr.heap[I]? = some (.stringIter s (encs a).length)
theorem QI.next {B I : Nat} {s : ByteArray} {rs a b : List Int} {r : Int} {wr w' : World} (h : QI B I s rs a (r :: b) wr) (hb : YtopfkelhgffomaaDoor.Bld B ([34] ++ quotes (a ++ [r])) w') (hi : w'.heap[I]? = some (.stringIter s (encs (a ++ [r])).length)) : QI B I s rs (a ++ [r]) b w' :=
  ⟨by rw [h.1]; simp, hb, hi⟩

set_option maxHeartbeats 1000000 in
theorem quote_no (s : ByteArray) (w : World) (hT : ETabs w) (hs : s.size ≤ 100000000) (hok : ¬ okText s.data.toList) : Calls Tryd.prog 24 #[.string s] w (StrErr [] 3 w) := by
  have HB := Lib.hid (bad_any s w hT.u (by omega))
  unfold BadPost at HB
  have HO := Lib.hid hok
  clear hok hT
  go_enter Tryd.func24, Tryd.ntmps24
  go_wp2_with fail
  refine HB.out.mono ?_
  rintro e0 w1 ⟨i, rfl, hi, hb⟩
  have B1 := Lib.hid hb
  have h0 : 0 ≤ i := by
    rcases Int.lt_or_le i 0 with h | h
    · exact absurd (hi.1 h) HO.out
    · exact h
  have t0 : decide (0 ≤ i) = true := decide_eq_true h0
  clear hb hi
  go_wp2_with fail
  try go_ret2
  exact ⟨rfl, B1.out⟩

set_option maxHeartbeats 16000000 in
theorem quote_yes (s : ByteArray) (rs : List Int) (w : World) (hT : ETabs w) (hs : s.size ≤ 100000000) (hg : rs.all good = true) (hl : s.data.toList = encs rs) : Calls Tryd.prog 24 #[.string s] w (StrErr (quoteOf rs) 0 w) := by
  have HB := Lib.hid (bad_any s w hT.u (by omega))
  unfold BadPost at HB
  have HT := Lib.hid hT
  have HOK := Lib.hid (show okText s.data.toList from ⟨rs, hg, hl⟩)
  have hsz : s.size = (encs rs).length := by rw [Lib.size_eq, hl]
  have HSZ := Lib.hid hsz
  have HL := Lib.hid hl
  have HG := Lib.hid hg
  have hfin : ∀ (S : ByteArray) w', S = ⟨(quoteOf rs).toArray⟩ → Below w.heap.size w w' → StrErr (quoteOf rs) 0 w (.returned (.tuple #[.string S, .int .i64 0])) w' := by
    rintro S w' rfl hb; exact ⟨rfl, hb⟩
  have HFIN := Lib.hid hfin
  generalize StrErr (quoteOf rs) 0 w = POST at *
  clear hT hg hl hsz hfin
  go_enter Tryd.func24, Tryd.ntmps24
  go_wp2_with fail
  refine HB.out.mono ?_
  rintro e0 w1 ⟨i, rfl, hi, hb⟩
  have B1 := Lib.hid hb
  have h0 : i < 0 := hi.2 HOK.out
  have t0 : decide (0 ≤ i) = false := decide_eq_false (by omega)
  have HFR := Lib.hid (YtopfkelhgffomaaDoor.fresh w1)
  have hal := (Below.refl w1.heap.size w1).alloc (Nat.le_refl _) (.cells #[.pointer none, .slice none 0 0] 59)
  have HW0 := Lib.hid (YtopfkelhgffomaaDoor.writeByte w1.heap.size [] 34 _ HFR.out (by decide) hal.size)
  unfold YtopfkelhgffomaaDoor.WrotePost at HW0
  rw [show ((34 : UInt8).toNat : Nat) = 34 from rfl] at HW0
  have BA := Lib.hid hal
  clear hb hi hal
  go_wp2_with fail
  refine HW0.out.mono ?_
  rintro e0 w2 ⟨rfl, hB2, hb2, -⟩
  have hlt2 : w1.heap.size < w2.heap.size := Nat.lt_of_lt_of_le (show w1.heap.size < (w1.alloc (.cells #[.pointer none, .slice none 0 0] 59)).heap.size by simp) hb2.size
  have B2 := Lib.hid (B1.out.trans ((BA.out.trans hb2).mono B1.out.size))
  have hit0 := World.iter_heap w2 s 0
  have hbl0 := (Below.refl w2.heap.size w2).alloc (Nat.le_refl _) (.stringIter s 0)
  have HQ0 : Hid (QI w1.heap.size w2.heap.size s rs [] rs (w2.alloc (.stringIter s 0))) := ⟨rfl, Lib.IsBuilderF.alloc hB2 _, hit0⟩
  have B3 := Lib.hid (B2.out.trans (hbl0.mono B2.out.size))
  obtain ⟨I, hI⟩ : ∃ I, I = w2.heap.size := ⟨_, rfl⟩
  obtain ⟨B, hBB⟩ : ∃ B, B = w1.heap.size := ⟨_, rfl⟩
  have hBI : B < I := by omega
  have hI0 : I < (w2.alloc (.stringIter s 0)).heap.size := by
    have : w2.heap.size < (w2.alloc (.stringIter s 0)).heap.size := by simp
    omega
  have HI := Lib.hid hI
  have HBB := Lib.hid hBB
  have hwB : w.heap.size ≤ B := by rw [hBB]; exact B1.out.size
  clear hB2 hb2 hit0 hbl0 HFR HW0 hlt2 hI hBB
  go_wp2_with fail
  simp only [← HI.out, ← HBB.out] at HQ0 ⊢
  go_loopw [] (fun wr => ∃ (a b : List Int), Hid (QI B I s rs a b wr) ∧ (encs a).length ≤ s.size ∧ Hid (Below w.heap.size w wr) ∧ I < wr.heap.size) (fun wr => s.size - wr.iterPos I)
  case atStart => exact ⟨[], rs, HQ0.out, Nat.zero_le _, B3.out, hI0⟩
  case round =>
    obtain ⟨a, b, hq, hps, hbw, hIw⟩ := hrel
    obtain ⟨q1, q2, hit⟩ := hq.out
    have QA := Lib.hid q1
    have QB := Lib.hid q2
    clear q1 q2
    obtain ⟨pos, hpos⟩ : ∃ pos, pos = (encs a).length := ⟨_, rfl⟩
    rw [← hpos] at hit hps
    have HPOS := Lib.hid hpos
    have hql : (quotes a).length ≤ 6 * pos := by
      rw [hpos]
      refine quotes_le a ?_
      have := HG.out
      rw [QA.out, List.all_append, Bool.and_eq_true] at this
      exact this.1
    clear hpos
    by_cases hp : pos < s.size
    · have hnx : ∀ ty, (Instr.next (.pointer (some ⟨I, 0, none⟩)) true ty).run Tryd.prog wr = _ := fun ty => Lib.run_next_any_at wr I s pos ty hit hp
      have hdd := Lib.decodeL_drop s pos
      have hrest : s.data.toList.drop pos = encs b := by
        rw [HL.out, QA.out, encs_append, HPOS.out, List.drop_left]
      rw [hrest] at hdd
      rw [← hdd] at hnx
      cases b with
      | nil =>
        exfalso
        have := congrArg List.length hrest
        rw [List.length_drop, ← Lib.size_eq] at this
        simp [encs] at this
        omega
      | cons r b =>
        have hgr : good r = true := by
          have := HG.out
          rw [QA.out, List.all_append, List.all_cons, Bool.and_eq_true, Bool.and_eq_true] at this
          exact this.2.1
        have hgr2 := hgr
        rw [good_iff] at hgr2
        obtain ⟨R, rfl⟩ := Int.eq_ofNat_of_zero_le hgr2.1
        rw [encs_cons, decode_enc _ hgr] at hnx
        rw [Int.toNat_natCast] at hnx
        have hdl := congrArg List.length hrest
        rw [List.length_drop, ← Lib.size_eq, encs_cons, List.length_append] at hdl
        obtain ⟨n, hn⟩ : ∃ n, n = (Lib.encodeRune (R : Int)).length := ⟨_, rfl⟩
        rw [← hn] at hnx hdl
        have hen : 1 ≤ n ∧ n ≤ 4 := by rw [hn]; exact enc_len _
        obtain ⟨R0, R1, -⟩ := hgr2
        have hit2 := Lib.iterAt_heap wr I s pos (pos + n) hit
        have hIB := Lib.IsBuilderF.iterAt QB.out hit (pos + n)
        have hbw2 := Lib.below_iterAt hbw.out (k := I) (by omega) s (pos + n)
        have hsz2 : I < (wr.iterAt I s (pos + n)).heap.size := by rw [Lib.iterAt_size]; exact hIw
        obtain ⟨wx, hwx⟩ : ∃ wx, wx = wr.iterAt I s (pos + n) := ⟨_, rfl⟩
        rw [← hwx] at hit2 hIB hbw2 hsz2
        have HWX := Lib.hid hwx
        have XB : Hid (YtopfkelhgffomaaDoor.Bld B ([34] ++ quotes a) wx) := hIB
        have XI := Lib.hid hit2
        have XW := Lib.hid hbw2
        have HN := Lib.hid hn
        have hpn : pos + n ≤ s.size := by omega
        have HEL : Hid ((encs (a ++ [(R : Int)])).length = pos + n) := by
          show _ = _
          rw [encs_snoc, List.length_append, ← HPOS.out, ← HN.out]
        have hfwd : ∀ w', YtopfkelhgffomaaDoor.Bld B ([34] ++ quotes (a ++ [(R : Int)])) w' → w'.heap[I]? = some (.stringIter s (pos + n)) → QI B I s rs (a ++ [(R : Int)]) b w' :=
          fun w' h1 h2 => hq.out.next h1 (by rw [HEL.out]; exact h2)
        have HF := Lib.hid hfwd
        have hmeas : ∀ w' : World, w'.heap[I]? = some (.stringIter s (pos + n)) → s.size - w'.iterPos I < s.size - wr.iterPos I := by
          intro w' h
          simp only [World.iterPos, h, hit]
          omega
        have HM := Lib.hid hmeas
        have hl0 : ([34] ++ quotes a).length ≤ 700000000 := by rw [List.length_append]; simp; omega
        have hqs := quotes_snoc a (R : Int)
        have hqr : quoteR (R : Int) = if (R : Int) = 34 ∨ (R : Int) = 92 then 92 :: Lib.encodeRune (R : Int) else if (R : Int) = 10 then [92, 110] else if (R : Int) = 9 then [92, 116] else if (R : Int) = 13 then [92, 114] else if (R : Int) < 32 ∨ (R : Int) = 127 then [92, 117, 123] ++ hexText R ++ [125] else Lib.encodeRune (R : Int) := rfl
        clear hdd hrest hdl hn hq hit hIB hbw2 hit2 hgr hfwd hmeas hbw QA HPOS QB hwx hps hp hql
        have ht34 : ((R : Int) == 34) = decide (R = 34) := by rw [Bool.eq_iff_iff, beq_iff_eq, decide_eq_true_eq]; omega
        have ht92 : ((R : Int) == 92) = decide (R = 92) := by rw [Bool.eq_iff_iff, beq_iff_eq, decide_eq_true_eq]; omega
        have ht10 : ((R : Int) == 10) = decide (R = 10) := by rw [Bool.eq_iff_iff, beq_iff_eq, decide_eq_true_eq]; omega
        have ht9 : ((R : Int) == 9) = decide (R = 9) := by rw [Bool.eq_iff_iff, beq_iff_eq, decide_eq_true_eq]; omega
        have ht13 : ((R : Int) == 13) = decide (R = 13) := by rw [Bool.eq_iff_iff, beq_iff_eq, decide_eq_true_eq]; omega
        have ht127 : ((R : Int) == 127) = decide (R = 127) := by rw [Bool.eq_iff_iff, beq_iff_eq, decide_eq_true_eq]; omega
        by_cases c34 : R = 34 ∨ R = 92
        · rcases c34 with c | c
          · have hqr := hqr.trans (if_pos (show (R : Int) = 34 ∨ (R : Int) = 92 by omega))
            simp only [c] at ht34 ht92
            have t34 : ((R : Int) == 34) = true := by rw [c]; rfl
            have t92 : ((R : Int) == 92) = false := by rw [c]; rfl
            clear ht34 ht92 ht10 ht9 ht13 ht127 c
            have HW0 := Lib.hid (YtopfkelhgffomaaDoor.writeByte B ([34] ++ quotes a) 92 wx XB.out (by simp only [List.length_append, List.length_cons, List.length_nil] at hl0 ⊢; omega) (by omega))
            unfold YtopfkelhgffomaaDoor.WrotePost at HW0
            go_wp2_with fail
            try rw [← HWX.out]
            refine HW0.out.mono ?_
            rintro e0 y1 ⟨rfl, z1, z2, z3⟩
            have YB1 : Hid (YtopfkelhgffomaaDoor.Bld B (([34] ++ quotes a) ++ [92]) y1) := z1
            have YI1 : Hid (y1.heap[I]? = some (.stringIter s (pos + n))) := z3.iter XI.out (by omega)
            have YW1 := Lib.hid (Below.trans XW.out (z2.mono hwB))
            have hs1 : I < y1.heap.size := Nat.lt_of_lt_of_le hsz2 z2.size
            clear z1 z2 z3
            have HW1 := Lib.hid (YtopfkelhgffomaaDoor.writeRune B (([34] ++ quotes a) ++ [92]) (R : Int) (by omega) (by omega) y1 YB1.out (by simp only [List.length_append, List.length_cons, List.length_nil] at hl0 ⊢; omega) (by omega))
            unfold YtopfkelhgffomaaDoor.WrotePost at HW1
            go_wp2_with fail
            try rw [← HWX.out]
            refine HW1.out.mono ?_
            rintro e0 y2 ⟨rfl, z1, z2, z3⟩
            have YB2 : Hid (YtopfkelhgffomaaDoor.Bld B ((([34] ++ quotes a) ++ [92]) ++ Lib.encodeRune (R : Int)) y2) := z1
            have YI2 : Hid (y2.heap[I]? = some (.stringIter s (pos + n))) := z3.iter YI1.out (by omega)
            have YW2 := Lib.hid (Below.trans YW1.out (z2.mono hwB))
            have hs2 : I < y2.heap.size := Nat.lt_of_lt_of_le hs1 z2.size
            clear z1 z2 z3
            have ZB : Hid (YtopfkelhgffomaaDoor.Bld B ([34] ++ quotes (a ++ [(R : Int)])) y2) := by
              show YtopfkelhgffomaaDoor.Bld _ _ _
              rw [hqs, hqr]
              have := YB2.out
              simpa using this
            have ZI := Lib.hid YI2.out
            have ZW := Lib.hid YW2.out
            have hzs := hs2
            clear hqs hqr
            go_wp2_with fail
            go_roundw
            case rel => exact ⟨a ++ [(R : Int)], b, HF.out _ ZB.out ZI.out, by rw [HEL.out]; exact hpn, ZW.out, hzs⟩
            case measure => exact HM.out _ ZI.out
          · have hqr := hqr.trans (if_pos (show (R : Int) = 34 ∨ (R : Int) = 92 by omega))
            simp only [c] at ht34 ht92
            have t34 : ((R : Int) == 34) = false := by rw [c]; rfl
            have t92 : ((R : Int) == 92) = true := by rw [c]; rfl
            clear ht34 ht92 ht10 ht9 ht13 ht127 c
            have HW0 := Lib.hid (YtopfkelhgffomaaDoor.writeByte B ([34] ++ quotes a) 92 wx XB.out (by simp only [List.length_append, List.length_cons, List.length_nil] at hl0 ⊢; omega) (by omega))
            unfold YtopfkelhgffomaaDoor.WrotePost at HW0
            go_wp2_with fail
            try rw [← HWX.out]
            refine HW0.out.mono ?_
            rintro e0 y1 ⟨rfl, z1, z2, z3⟩
            have YB1 : Hid (YtopfkelhgffomaaDoor.Bld B (([34] ++ quotes a) ++ [92]) y1) := z1
            have YI1 : Hid (y1.heap[I]? = some (.stringIter s (pos + n))) := z3.iter XI.out (by omega)
            have YW1 := Lib.hid (Below.trans XW.out (z2.mono hwB))
            have hs1 : I < y1.heap.size := Nat.lt_of_lt_of_le hsz2 z2.size
            clear z1 z2 z3
            have HW1 := Lib.hid (YtopfkelhgffomaaDoor.writeRune B (([34] ++ quotes a) ++ [92]) (R : Int) (by omega) (by omega) y1 YB1.out (by simp only [List.length_append, List.length_cons, List.length_nil] at hl0 ⊢; omega) (by omega))
            unfold YtopfkelhgffomaaDoor.WrotePost at HW1
            go_wp2_with fail
            try rw [← HWX.out]
            refine HW1.out.mono ?_
            rintro e0 y2 ⟨rfl, z1, z2, z3⟩
            have YB2 : Hid (YtopfkelhgffomaaDoor.Bld B ((([34] ++ quotes a) ++ [92]) ++ Lib.encodeRune (R : Int)) y2) := z1
            have YI2 : Hid (y2.heap[I]? = some (.stringIter s (pos + n))) := z3.iter YI1.out (by omega)
            have YW2 := Lib.hid (Below.trans YW1.out (z2.mono hwB))
            have hs2 : I < y2.heap.size := Nat.lt_of_lt_of_le hs1 z2.size
            clear z1 z2 z3
            have ZB : Hid (YtopfkelhgffomaaDoor.Bld B ([34] ++ quotes (a ++ [(R : Int)])) y2) := by
              show YtopfkelhgffomaaDoor.Bld _ _ _
              rw [hqs, hqr]
              have := YB2.out
              simpa using this
            have ZI := Lib.hid YI2.out
            have ZW := Lib.hid YW2.out
            have hzs := hs2
            clear hqs hqr
            go_wp2_with fail
            go_roundw
            case rel => exact ⟨a ++ [(R : Int)], b, HF.out _ ZB.out ZI.out, by rw [HEL.out]; exact hpn, ZW.out, hzs⟩
            case measure => exact HM.out _ ZI.out
        have d34 : ¬ ((R : Int) = 34 ∨ (R : Int) = 92) := by omega
        replace hqr := hqr.trans (if_neg d34)
        have t34 : ((R : Int) == 34) = false := by rw [beq_eq_false_iff_ne]; omega
        have t92 : ((R : Int) == 92) = false := by rw [beq_eq_false_iff_ne]; omega
        clear ht34 ht92
        by_cases c10 : R = 10
        · have hqr := hqr.trans (if_pos (show (R : Int) = 10 by omega))
          have t10 : ((R : Int) == 10) = true := by rw [c10]; rfl
          clear d34 c34 ht10 ht9 ht13 ht127 c10
          have HW0 := Lib.hid (YtopfkelhgffomaaDoor.writeStr B ([34] ++ quotes a) ⟨#[92, 110]⟩ wx XB.out (by rw [show (⟨#[92, 110]⟩ : ByteArray).size = 2 from rfl]; omega) (by omega))
          unfold YtopfkelhgffomaaDoor.WrotePost at HW0
          go_wp2_with fail
          try rw [← HWX.out]
          refine HW0.out.mono ?_
          rintro e0 y1 ⟨rfl, z1, z2, z3⟩
          have YB1 : Hid (YtopfkelhgffomaaDoor.Bld B (([34] ++ quotes a) ++ (⟨#[92, 110]⟩ : ByteArray).data.toList) y1) := z1
          have YI1 : Hid (y1.heap[I]? = some (.stringIter s (pos + n))) := z3.iter XI.out (by omega)
          have YW1 := Lib.hid (Below.trans XW.out (z2.mono hwB))
          have hs1 : I < y1.heap.size := Nat.lt_of_lt_of_le hsz2 z2.size
          clear z1 z2 z3
          have ZB : Hid (YtopfkelhgffomaaDoor.Bld B ([34] ++ quotes (a ++ [(R : Int)])) y1) := by
            show YtopfkelhgffomaaDoor.Bld _ _ _
            rw [hqs, hqr]
            have := YB1.out
            simpa using this
          have ZI := Lib.hid YI1.out
          have ZW := Lib.hid YW1.out
          have hzs := hs1
          clear hqs hqr
          go_wp2_with fail
          go_roundw
          case rel => exact ⟨a ++ [(R : Int)], b, HF.out _ ZB.out ZI.out, by rw [HEL.out]; exact hpn, ZW.out, hzs⟩
          case measure => exact HM.out _ ZI.out
        replace hqr := hqr.trans (if_neg (show ¬ (R : Int) = 10 by omega))
        have t10 : ((R : Int) == 10) = false := by rw [beq_eq_false_iff_ne]; omega
        clear ht10
        by_cases c9 : R = 9
        · have hqr := hqr.trans (if_pos (show (R : Int) = 9 by omega))
          have t9 : ((R : Int) == 9) = true := by rw [c9]; rfl
          clear d34 c34 ht9 ht13 ht127 c9
          have HW0 := Lib.hid (YtopfkelhgffomaaDoor.writeStr B ([34] ++ quotes a) ⟨#[92, 116]⟩ wx XB.out (by rw [show (⟨#[92, 116]⟩ : ByteArray).size = 2 from rfl]; omega) (by omega))
          unfold YtopfkelhgffomaaDoor.WrotePost at HW0
          go_wp2_with fail
          try rw [← HWX.out]
          refine HW0.out.mono ?_
          rintro e0 y1 ⟨rfl, z1, z2, z3⟩
          have YB1 : Hid (YtopfkelhgffomaaDoor.Bld B (([34] ++ quotes a) ++ (⟨#[92, 116]⟩ : ByteArray).data.toList) y1) := z1
          have YI1 : Hid (y1.heap[I]? = some (.stringIter s (pos + n))) := z3.iter XI.out (by omega)
          have YW1 := Lib.hid (Below.trans XW.out (z2.mono hwB))
          have hs1 : I < y1.heap.size := Nat.lt_of_lt_of_le hsz2 z2.size
          clear z1 z2 z3
          have ZB : Hid (YtopfkelhgffomaaDoor.Bld B ([34] ++ quotes (a ++ [(R : Int)])) y1) := by
            show YtopfkelhgffomaaDoor.Bld _ _ _
            rw [hqs, hqr]
            have := YB1.out
            simpa using this
          have ZI := Lib.hid YI1.out
          have ZW := Lib.hid YW1.out
          have hzs := hs1
          clear hqs hqr
          go_wp2_with fail
          go_roundw
          case rel => exact ⟨a ++ [(R : Int)], b, HF.out _ ZB.out ZI.out, by rw [HEL.out]; exact hpn, ZW.out, hzs⟩
          case measure => exact HM.out _ ZI.out
        replace hqr := hqr.trans (if_neg (show ¬ (R : Int) = 9 by omega))
        have t9 : ((R : Int) == 9) = false := by rw [beq_eq_false_iff_ne]; omega
        clear ht9
        by_cases c13 : R = 13
        · have hqr := hqr.trans (if_pos (show (R : Int) = 13 by omega))
          have t13 : ((R : Int) == 13) = true := by rw [c13]; rfl
          clear d34 c34 ht13 ht127 c13
          have HW0 := Lib.hid (YtopfkelhgffomaaDoor.writeStr B ([34] ++ quotes a) ⟨#[92, 114]⟩ wx XB.out (by rw [show (⟨#[92, 114]⟩ : ByteArray).size = 2 from rfl]; omega) (by omega))
          unfold YtopfkelhgffomaaDoor.WrotePost at HW0
          go_wp2_with fail
          try rw [← HWX.out]
          refine HW0.out.mono ?_
          rintro e0 y1 ⟨rfl, z1, z2, z3⟩
          have YB1 : Hid (YtopfkelhgffomaaDoor.Bld B (([34] ++ quotes a) ++ (⟨#[92, 114]⟩ : ByteArray).data.toList) y1) := z1
          have YI1 : Hid (y1.heap[I]? = some (.stringIter s (pos + n))) := z3.iter XI.out (by omega)
          have YW1 := Lib.hid (Below.trans XW.out (z2.mono hwB))
          have hs1 : I < y1.heap.size := Nat.lt_of_lt_of_le hsz2 z2.size
          clear z1 z2 z3
          have ZB : Hid (YtopfkelhgffomaaDoor.Bld B ([34] ++ quotes (a ++ [(R : Int)])) y1) := by
            show YtopfkelhgffomaaDoor.Bld _ _ _
            rw [hqs, hqr]
            have := YB1.out
            simpa using this
          have ZI := Lib.hid YI1.out
          have ZW := Lib.hid YW1.out
          have hzs := hs1
          clear hqs hqr
          go_wp2_with fail
          go_roundw
          case rel => exact ⟨a ++ [(R : Int)], b, HF.out _ ZB.out ZI.out, by rw [HEL.out]; exact hpn, ZW.out, hzs⟩
          case measure => exact HM.out _ ZI.out
        replace hqr := hqr.trans (if_neg (show ¬ (R : Int) = 13 by omega))
        have t13 : ((R : Int) == 13) = false := by rw [beq_eq_false_iff_ne]; omega
        clear ht13
        by_cases c5 : R < 32 ∨ R = 127
        · have hqr := hqr.trans (if_pos (show (R : Int) < 32 ∨ (R : Int) = 127 by omega))
          have R128 : (R : Int) < 128 := by omega
          have hxt := (hexText_facts R (by omega)).2.2.1
          have hcase : decide ((R : Int) < 32) = true ∨ (decide ((R : Int) < 32) = false ∧ ((R : Int) == 127) = true) := by
            by_cases h : R < 32
            · exact .inl (decide_eq_true (by omega))
            · exact .inr ⟨decide_eq_false (by omega), by rw [ht127]; exact decide_eq_true (by omega)⟩
          have hr128 : R < 128 := by omega
          clear ht127 c5 d34 c34 c10 c9 c13
          rcases hcase with t32 | ⟨t32, t127⟩
          all_goals
            have hesz : (⟨#[92, 117, 123]⟩ ++ ⟨(hexText R).toArray⟩ ++ ⟨#[125]⟩ : ByteArray).size = (hexText R).length + 4 := by
              rw [Lib.size_eq]; simp
            have HX := Lib.hid (hex_any R (by omega) wx (HT.out.keep XW.out).n)
            unfold StrPost at HX
            go_wp2_with fail
            try rw [← HWX.out]
            refine HX.out.mono ?_
            rintro e0 y1 ⟨rfl, hh⟩
            have YB1 : Hid (YtopfkelhgffomaaDoor.Bld B ([34] ++ quotes a) y1) := Lib.IsBuilderF.below XB.out hh
            have YI1 : Hid (y1.heap[I]? = some (.stringIter s (pos + n))) := by show _ = _; rw [hh.block _ hsz2]; exact XI.out
            have YW1 := Lib.hid (Below.trans XW.out (hh.mono (XW.out).size))
            have hs1 : I < y1.heap.size := Nat.lt_of_lt_of_le hsz2 hh.size
            clear hh
            have HW1 := Lib.hid (YtopfkelhgffomaaDoor.writeStr B ([34] ++ quotes a) (⟨#[92, 117, 123]⟩ ++ ⟨(hexText R).toArray⟩ ++ ⟨#[125]⟩) y1 YB1.out (by rw [hesz]; omega) (by omega))
            unfold YtopfkelhgffomaaDoor.WrotePost at HW1
            go_wp2_with fail
            try rw [← HWX.out]
            refine HW1.out.mono ?_
            rintro e0 y2 ⟨rfl, z1, z2, z3⟩
            have YB2 : Hid (YtopfkelhgffomaaDoor.Bld B (([34] ++ quotes a) ++ ((⟨#[92, 117, 123]⟩ ++ ⟨(hexText R).toArray⟩ ++ ⟨#[125]⟩) : ByteArray).data.toList) y2) := z1
            have YI2 : Hid (y2.heap[I]? = some (.stringIter s (pos + n))) := z3.iter YI1.out (by omega)
            have YW2 := Lib.hid (Below.trans YW1.out (z2.mono hwB))
            have hs2 : I < y2.heap.size := Nat.lt_of_lt_of_le hs1 z2.size
            clear z1 z2 z3
            have ZB : Hid (YtopfkelhgffomaaDoor.Bld B ([34] ++ quotes (a ++ [(R : Int)])) y2) := by
              show YtopfkelhgffomaaDoor.Bld _ _ _
              rw [hqs, hqr]
              have := YB2.out
              simpa using this
            have ZI := Lib.hid YI2.out
            have ZW := Lib.hid YW2.out
            have hzs := hs2
            clear hqs hqr
            go_wp2_with fail
            go_roundw
            case rel => exact ⟨a ++ [(R : Int)], b, HF.out _ ZB.out ZI.out, by rw [HEL.out]; exact hpn, ZW.out, hzs⟩
            case measure => exact HM.out _ ZI.out
        · replace hqr := hqr.trans (if_neg (show ¬ ((R : Int) < 32 ∨ (R : Int) = 127) by omega))
          have t32 : decide ((R : Int) < 32) = false := decide_eq_false (by omega)
          have t127 : ((R : Int) == 127) = false := by rw [beq_eq_false_iff_ne]; omega
          clear ht127 c5 d34 c34 c10 c9 c13
          have HW0 := Lib.hid (YtopfkelhgffomaaDoor.writeRune B ([34] ++ quotes a) (R : Int) (by omega) (by omega) wx XB.out (by omega) (by omega))
          unfold YtopfkelhgffomaaDoor.WrotePost at HW0
          go_wp2_with fail
          try rw [← HWX.out]
          refine HW0.out.mono ?_
          rintro e0 y1 ⟨rfl, z1, z2, z3⟩
          have YB1 : Hid (YtopfkelhgffomaaDoor.Bld B (([34] ++ quotes a) ++ Lib.encodeRune (R : Int)) y1) := z1
          have YI1 : Hid (y1.heap[I]? = some (.stringIter s (pos + n))) := z3.iter XI.out (by omega)
          have YW1 := Lib.hid (Below.trans XW.out (z2.mono hwB))
          have hs1 : I < y1.heap.size := Nat.lt_of_lt_of_le hsz2 z2.size
          clear z1 z2 z3
          have ZB : Hid (YtopfkelhgffomaaDoor.Bld B ([34] ++ quotes (a ++ [(R : Int)])) y1) := by
            show YtopfkelhgffomaaDoor.Bld _ _ _
            rw [hqs, hqr]
            have := YB1.out
            simpa using this
          have ZI := Lib.hid YI1.out
          have ZW := Lib.hid YW1.out
          have hzs := hs1
          clear hqs hqr
          go_wp2_with fail
          go_roundw
          case rel => exact ⟨a ++ [(R : Int)], b, HF.out _ ZB.out ZI.out, by rw [HEL.out]; exact hpn, ZW.out, hzs⟩
          case measure => exact HM.out _ ZI.out
    · have hnx : ∀ ty, (Instr.next (.pointer (some ⟨I, 0, none⟩)) true ty).run Tryd.prog wr = _ := fun ty => Lib.run_next_end_at wr I s pos ty hit hp
      have hb0 : b = [] := by
        have h1 := HSZ.out
        rw [QA.out, encs_append, List.length_append, ← HPOS.out] at h1
        exact encs_nil (List.eq_nil_of_length_eq_zero (by omega))
      have hra : rs = a := by rw [QA.out, hb0, List.append_nil]
      have HRA := Lib.hid hra
      have HW := Lib.hid (YtopfkelhgffomaaDoor.writeByte B ([34] ++ quotes a) 34 wr QB.out (by rw [List.length_append]; simp; omega) (by omega))
      unfold YtopfkelhgffomaaDoor.WrotePost at HW
      rw [show ((34 : UInt8).toNat : Nat) = 34 from rfl] at HW
      clear hb0 hra hq QA hit HPOS
      go_wp2_with fail
      refine HW.out.mono ?_
      rintro e0 y1 ⟨rfl, z1, z2, -⟩
      have HB2 := Lib.hid (YtopfkelhgffomaaDoor.built B _ y1 z1 (Nat.le_trans (by omega) z2.size))
      have YW := Lib.hid (hbw.out.trans (z2.mono hwB))
      clear z1 z2
      go_wp2_with fail
      refine HB2.out.mono ?_
      rintro e0 y2 ⟨rfl, z2⟩
      have N := Lib.hid (fun S h => HFIN.out S y2 h (YW.out.trans (z2.mono hwB)))
      clear z2
      go_wp2_with fail
      try go_ret2
      exact N.out _ (by rw [HRA.out]; rfl)
end Go.Proofs.YtopfkelhgffomaaDoor
