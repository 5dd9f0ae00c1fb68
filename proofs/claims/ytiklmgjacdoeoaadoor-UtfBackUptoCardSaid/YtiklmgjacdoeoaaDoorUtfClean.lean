/-
  The contract of utf.Clean, and the walk of typecasekeep.UtfClean. Conditions: Go's two tables of utf8 lie in the world; the text has at most 1048576 bytes.
-/
import Derived.Test.YtiklmgjacdoeoaaDoorUtf8Walk
namespace Go.Proofs.YtiklmgjacdoeoaaDoor
open Go.RowKit Gx

/-- the runes of a text, whatever it is -/
def decF : Nat → List UInt8 → List Int
  | 0, _ => []
  | f + 1, l => if l = [] then [] else ((Lib.decodeL l).1 : Int) :: decF f (l.drop (Lib.decodeL l).2)
def decAll (l : List UInt8) : List Int := decF l.length l

theorem decF_nil (f : Nat) : decF f [] = [] := by cases f <;> simp [decF]
theorem decodeL_good (l : List UInt8) : good ((Lib.decodeL l).1 : Int) = true := by
  have hv := Lib.decodeN_valid l.length (l.getD 0 0).toNat (l.getD 1 0).toNat (l.getD 2 0).toNat (l.getD 3 0).toNat (UInt8.toNat_lt _)
  rw [← Lib.decodeL_N] at hv
  rw [good_iff]; omega
theorem decF_good : ∀ f l, (decF f l).all good = true
  | 0, _ => rfl
  | f + 1, l => by
    unfold decF
    by_cases h : l = []
    · rw [if_pos h]; rfl
    · rw [if_neg h, List.all_cons, decodeL_good, decF_good f]; rfl
theorem decF_encs : ∀ (rs : List Int) (f : Nat), rs.all good = true → (encs rs).length ≤ f → decF f (encs rs) = rs
  | [], f, _, _ => decF_nil f
  | r :: rs, 0, hg, h => by
    rw [encs_cons, List.length_append] at h
    have := (enc_len r).1
    omega
  | r :: rs, f + 1, hg, h => by
    rw [List.all_cons, Bool.and_eq_true] at hg
    have h1 := enc_len r
    rw [encs_cons, List.length_append] at h
    unfold decF
    rw [if_neg (by
      intro e
      have := encs_nil e
      simp at this), encs_cons, decode_enc r hg.1, List.drop_left, decF_encs rs f hg.2 (by omega)]
    have h2 := hg.1
    rw [good_iff] at h2
    congr 1
    show ((r.toNat : Nat) : Int) = r
    omega
theorem decAll_encs (rs : List Int) (hg : rs.all good = true) : decAll (encs rs) = rs := decF_encs rs _ hg (Nat.le_refl _)
theorem decF_len : ∀ f l, (decF f l).length ≤ f
  | 0, _ => Nat.le_refl _
  | f + 1, l => by
    unfold decF
    by_cases h : l = []
    · rw [if_pos h]; simp
    · rw [if_neg h, List.length_cons]
      have := decF_len f (l.drop (Lib.decodeL l).2)
      omega
theorem clean_ok (l : List UInt8) : okText (encs (decAll l)) := ⟨decAll l, decF_good _ _, rfl⟩
theorem clean_clean (l : List UInt8) : encs (decAll (encs (decAll l))) = encs (decAll l) := by
  have h : (decAll l).all good = true := decF_good _ _
  rw [decAll_encs _ h]
theorem clean_same (l : List UInt8) (h : okText l) : encs (decAll l) = l := by
  obtain ⟨rs, h1, rfl⟩ := h
  rw [decAll_encs rs h1]

def CleanPost (l : List UInt8) (w : World) (e : Ending) (w' : World) : Prop := e = .returned (.string ⟨(encs (decAll l)).toArray⟩) ∧ Below w.heap.size w w'

set_option maxHeartbeats 2000000 in
theorem clean_any (s : ByteArray) (w : World) (hs : s.size ≤ 1099511627776) : Calls Tryd.prog 13 #[.string s] w (CleanPost s.data.toList w) := by
  have hsl := Lib.size_eq s
  obtain ⟨l, hl⟩ : ∃ l, l = s.data.toList := ⟨_, rfl⟩
  rw [← hl] at hsl ⊢
  have HL := Lib.hid hl
  have HSL := Lib.hid hsl
  clear hl hsl
  go_enter Tryd.func13, Tryd.ntmps13
  go_wp2
  go_loopw [] (fun wr => ∃ (pos f : Nat) (acc : List Int), Hid (Lib.IsBuilderF 44 5 w.heap.size w.heap.size (Lib.byteCells (encs acc)) wr) ∧ wr.heap[w.heap.size + 1]? = some (.stringIter s pos) ∧ Below w.heap.size w wr ∧
      Hid (acc ++ decF f (l.drop pos) = decAll l) ∧ s.size ≤ pos + f ∧ acc.length ≤ pos ∧ pos ≤ s.size) (fun wr => s.size - wr.iterPos (w.heap.size + 1))
  case atStart =>
    refine ⟨0, s.size, [], (Lib.IsBuilderF.of (Lib.fresh_isBuilder 44 5 w)).alloc _, ?_, ((Below.refl _ w).alloc (Nat.le_refl _) _).alloc (by simp) _, ?_, by omega, by simp, Nat.zero_le _⟩
    · have := World.iter_heap (w.alloc (.cells #[.pointer none, .slice none 0 0] 44)) s 0
      simpa using this
    · show _ = _
      rw [List.nil_append, List.drop_zero, HSL.out]; rfl
  case round =>
    obtain ⟨pos, f, acc, hI, hit, hbw, hacc, hfu, hal, hps⟩ := hrel
    have hsz : w.heap.size + 1 < wr.heap.size := (Array.getElem?_eq_some_iff.1 hit).1
    by_cases hp : pos < s.size
    · have hnx : ∀ ty, (Instr.next (.pointer (some ⟨w.heap.size + 1, 0, none⟩)) true ty).run Tryd.prog wr = _ := fun ty => Lib.run_next_any_at wr (w.heap.size + 1) s pos ty hit hp
      have hdd := Lib.decodeL_drop s pos
      rw [← HL.out] at hdd
      rw [← hdd] at hnx
      have hne : l.drop pos ≠ [] := drop_ne (by have := HSL.out; omega)
      have hd1 := decodeL_pos (l.drop pos)
      have hd4 : pos + (Lib.decodeL (l.drop pos)).2 ≤ s.size := by
        have h5 := decodeL_le_len (l.drop pos) hne
        rw [List.length_drop, ← HSL.out] at h5
        omega
      have hgd := decodeL_good (l.drop pos)
      rw [good_iff] at hgd
      obtain ⟨f, rfl⟩ : ∃ g, f = g + 1 := ⟨f - 1, by omega⟩
      have hstep : decF (f + 1) (l.drop pos) = ((Lib.decodeL (l.drop pos)).1 : Int) :: decF f (l.drop (pos + (Lib.decodeL (l.drop pos)).2)) := by
        conv => lhs; unfold decF
        rw [if_neg hne, List.drop_drop]
      obtain ⟨r, hr⟩ : ∃ r, r = (Lib.decodeL (l.drop pos)).1 := ⟨_, rfl⟩
      obtain ⟨n, hn⟩ : ∃ n, n = (Lib.decodeL (l.drop pos)).2 := ⟨_, rfl⟩
      rw [← hr, ← hn] at hnx hstep
      rw [← hr] at hgd
      rw [← hn] at hd1 hd4
      have hacc2 : Hid ((acc ++ [(r : Int)]) ++ decF f (l.drop (pos + n)) = decAll l) := by
        show _ = _
        rw [← hacc.out, hstep, List.append_assoc]; rfl
      have hit2 := Lib.iterAt_heap wr (w.heap.size + 1) s pos (pos + n) hit
      have hI2 := hI.out.iterAt hit (pos + n)
      have hbw2 := Lib.below_iterAt hbw (k := w.heap.size + 1) (by omega) s (pos + n)
      have hsz2 : w.heap.size ≤ (wr.iterAt (w.heap.size + 1) s (pos + n)).heap.size := by rw [Lib.iterAt_size]; omega
      have h47 : (Lib.byteCells (encs acc)).length + 4 ≤ 140737488355328 := by
        rw [Lib.byteCells_length]
        have := encs_le acc
        omega
      obtain ⟨g0, g1, -⟩ := hgd
      have HX := Lib.hid (YtiklmgjacdoeoaaDoor.writeRune w.heap.size w.heap.size _ (r : Int) (by omega) (by omega) _ hI2 h47 hsz2)
      clear hr hn hstep hdd hne hI2 hsz2 h47 hacc hI
      go_wp2_with fail
      refine HX.out.mono ?_
      rintro e W1 ⟨rfl, h1, b1, k1⟩
      have hit3 := k1.iter hit2 (by omega)
      have hb3 := hbw2.trans b1
      have hI3 : Hid (Lib.IsBuilderF 44 5 w.heap.size w.heap.size (Lib.byteCells (encs (acc ++ [(r : Int)]))) W1) := by
        show Lib.IsBuilderF _ _ _ _ _ _
        have e : encs (acc ++ [(r : Int)]) = encs acc ++ Lib.encodeRune (r : Int) := by rw [encs_append]; simp [encs]
        rw [e, Lib.byteCells_append, Lib.byteCells_encodeRune]; exact Or.inr h1
      clear h1 b1 k1 hit2 hbw2 HX
      go_wp2
      go_roundw
      case rel => exact ⟨pos + n, f, acc ++ [(r : Int)], hI3, hit3, hb3, hacc2, by omega, by simp; omega, hd4⟩
      case measure =>
        simp only [World.iterPos, hit3, hit]
        omega
    · have hnx : ∀ ty, (Instr.next (.pointer (some ⟨w.heap.size + 1, 0, none⟩)) true ty).run Tryd.prog wr = _ := fun ty => Lib.run_next_end_at wr (w.heap.size + 1) s pos ty hit hp
      have hfin : acc = decAll l := by
        rw [← hacc.out, List.drop_eq_nil_of_le (by have := HSL.out; omega), decF_nil, List.append_nil]
      have HX := Lib.hid (YtiklmgjacdoeoaaDoor.built w.heap.size w.heap.size (encs acc) wr hI.out (by omega))
      have HF := Lib.hid hfin
      clear hfin hI
      go_wp2_with fail
      refine HX.out.mono ?_
      rintro e W1 ⟨rfl, -, b1⟩
      have hb3 := hbw.trans b1
      go_wp2
      go_ret
      exact ⟨by rw [← HF.out]; rfl, hb3⟩

set_option maxRecDepth 4000 in
set_option maxHeartbeats 2000000 in
theorem utfClean_walk (s : ByteArray) (w : World) (hT : Tabs w) (hs : s.size ≤ 1048576) :
    Calls Tryd.prog 5 #[.string s] w (TruePost w) := by
  have HT := Lib.hid hT
  have hc1 := clean_any s
  obtain ⟨C, hC⟩ : ∃ C : ByteArray, C = ⟨(encs (decAll s.data.toList)).toArray⟩ := ⟨_, rfl⟩
  have hCl : C.data.toList = encs (decAll s.data.toList) := by rw [hC]
  have hCs : C.size ≤ 4194304 := by
    rw [Lib.size_eq, hCl]
    have h1 := encs_le (decAll s.data.toList)
    have h2 := decF_len s.data.toList.length s.data.toList
    have h3 := Lib.size_eq s
    unfold decAll at *
    omega
  have hok : okText C.data.toList := by rw [hCl]; exact clean_ok _
  have hcc : (⟨(encs (decAll C.data.toList)).toArray⟩ : ByteArray) = C := by rw [hCl, clean_clean, ← hC]
  have hsame : okText s.data.toList → C = s := by
    intro h
    rw [hC, clean_same _ h]
  have HC := Lib.hid hC
  have HCC := Lib.hid hcc
  have HOK := Lib.hid hok
  have HSM := Lib.hid hsame
  clear hT hc1 hC hCl hok hcc hsame
  go_enter Tryd.func5, Tryd.ntmps5
  go_wp2_with fail
  refine (utfs_any w).mono ?_
  rintro e w1 ⟨rfl, hb1⟩
  go_wp2_with fail
  refine (clean_any s w1 (by omega)).mono ?_
  rintro e w2 ⟨rfl, hb⟩
  have hb2 : Below w.heap.size w w2 := hb1.trans (hb.mono hb1.size)
  clear hb hb1
  rw [← HC.out]
  go_wp2_with fail
  refine (bad_any C w2 (HT.out.keep hb2) (by omega)).mono ?_
  rintro e w3 ⟨i, rfl, hi, hb⟩
  have hb3 : Below w.heap.size w w3 := hb2.trans (hb.mono hb2.size)
  have h1 : i < 0 := hi.2 HOK.out
  clear hb hb2 hi
  go_wp2_with fail
  refine (clean_any C w3 (by omega)).mono ?_
  rintro e w4 ⟨rfl, hb⟩
  have hb4 : Below w.heap.size w w4 := hb3.trans (hb.mono hb3.size)
  clear hb hb3
  rw [HCC.out]
  go_wp2_with fail
  refine (bad_any s w4 (HT.out.keep hb4) (by omega)).mono ?_
  rintro e w5 ⟨j, rfl, hi, hb⟩
  have hb5 : Below w.heap.size w w5 := hb4.trans (hb.mono hb4.size)
  have HI := Lib.hid hi
  clear hb hb4 hi
  by_cases h2 : 0 ≤ j
  · go_wp2
    go_ret
    exact ⟨rfl, hb5⟩
  · obtain rfl : C = s := HSM.out (HI.out.1 (by omega))
    go_wp2
    go_ret
    exact ⟨rfl, hb5⟩
end Go.Proofs.YtiklmgjacdoeoaaDoor
