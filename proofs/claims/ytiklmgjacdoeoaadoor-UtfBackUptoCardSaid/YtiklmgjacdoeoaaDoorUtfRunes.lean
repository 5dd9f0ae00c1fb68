/-
  The contracts of utf.Runes, utf.Cut and slices.Equal at runes. Conditions: Go's two tables of utf8 lie in the world; the text has at most 2^40 bytes.
-/
import Derived.Test.YtiklmgjacdoeoaaDoorUtfClean
import Derived.Test.YtiklmgjacdoeoaaDoorUtfSync
import Derived.Laws.IdiomStrings
namespace Go.Proofs.YtiklmgjacdoeoaaDoor
open Go.RowKit Gx

theorem runesFrom_list (s : ByteArray) : ∀ (f pos : Nat) (acc : Array Value), Conv.runesFrom s f pos acc = acc ++ ((decF f (s.data.toList.drop pos)).map (Value.int .i32)).toArray
  | 0, pos, acc => by simp [Conv.runesFrom, decF]
  | f + 1, pos, acc => by
    unfold Conv.runesFrom decF
    by_cases hp : pos < s.size
    · have hne : s.data.toList.drop pos ≠ [] := drop_ne (by rw [← Lib.size_eq]; exact hp)
      rw [if_pos hp, if_neg hne]
      show Conv.runesFrom s f (pos + (Utf8.decode s pos).2) (acc.push (.int .i32 (Int.ofNat (Utf8.decode s pos).1))) = _
      rw [runesFrom_list s f, ← Lib.decodeL_drop, List.drop_drop]
      apply Array.toList_inj.1
      simp
    · have he : s.data.toList.drop pos = [] := List.drop_eq_nil_of_le (by rw [← Lib.size_eq]; omega)
      rw [if_neg hp, if_pos he]
      simp

theorem conv_runes_run {P : Program} (w : World) (src dst e : TypeId) (s : ByteArray) (hs : P.underlying src = some .string) (hd : P.underlying dst = some (.slice e)) (he : P.underlying e = some (.int .i32)) (h40 : s.size ≤ 1099511627776) :
    ∃ cap w', (convert src dst (.string s)).run P w = .ok (.slice (some ⟨w.heap.size, 0, none⟩) (decAll s.data.toList).length cap) w' ∧ Rd .i32 w' (some ⟨w.heap.size, 0, none⟩) cap (decAll s.data.toList) ∧ Below w.heap.size w w' := by
  have hl : Conv.runesFrom s s.size 0 #[] = ((decAll s.data.toList).map (Value.int .i32)).toArray := by
    rw [runesFrom_list, List.drop_zero, Lib.size_eq]
    simp [decAll]
  have hsz : (Conv.runesFrom s s.size 0 #[]).size = (decAll s.data.toList).length := by rw [hl]; simp
  have hle : (decAll s.data.toList).length ≤ s.size := by rw [Lib.size_eq]; exact decF_len _ _
  have hrun := run_runes_of_string (P := P) w src dst e s hs hd he (by rw [hsz]; omega)
  have hg := grownCap_ge w (Conv.runesFrom s s.size 0 #[]).size 0 e
  have hgm : grownCap w (Conv.runesFrom s s.size 0 #[]).size 0 e ≤ 9223372036854775807 := grownCap_le_maxLen w _ 0 e (by rw [hsz]; unfold maxLen; omega)
  rw [hsz] at hrun hg hgm
  generalize grownCap w (decAll s.data.toList).length 0 e = cap at *
  refine ⟨cap, _, hrun, ⟨by omega, hgm, ?_, fun h => by simp at h, ?_⟩, ?_⟩
  · intro x hx
    have := List.all_eq_true.1 (decF_good s.data.toList.length s.data.toList) x hx
    rw [good_iff] at this
    simp [Lit.wf, IntKind.min, IntKind.max, IntKind.signed, IntKind.bits]
    omega
  · intro a ha hp
    obtain rfl := Option.some.inj ha
    refine ⟨rfl, by simp, fun j hj => ?_⟩
    have := World.cell?_alloc_mark w.drew (Conv.runesFrom s s.size 0 #[] ++ Array.replicate (cap - (decAll s.data.toList).length) (.int .i32 0)) e (0, 0) (0 + j)
    refine this.trans ?_
    rw [hl, Nat.zero_add, Array.getElem?_append_left (by simpa using hj)]
    simp [List.getD, List.getElem?_eq_getElem hj]
  · exact (Below.refl _ w).drew.alloc (Nat.le_refl _) _

def RunesPost (rs : List Int) (w : World) (e : Ending) (w' : World) : Prop :=
  ∃ g cap, e = .returned (.tuple #[.slice (some ⟨g, 0, none⟩) rs.length cap, .int .i64 0]) ∧ Rd .i32 w' (some ⟨g, 0, none⟩) cap rs ∧ Below w.heap.size w w'
def RunesNo (w : World) (e : Ending) (w' : World) : Prop := e = .returned (.tuple #[.slice none 0 0, .int .i64 3]) ∧ Below w.heap.size w w'

set_option maxHeartbeats 1000000 in
theorem runes_yes (s : ByteArray) (rs : List Int) (w : World) (hT : Tabs w) (hs : s.size ≤ 1099511627776) (hg : rs.all good = true) (hl : s.data.toList = encs rs) :
    Calls Tryd.prog 10 #[.string s] w (RunesPost rs w) := by
  have hd : decAll s.data.toList = rs := by rw [hl, decAll_encs rs hg]
  have hok : okText s.data.toList := ⟨rs, hg, hl⟩
  have HD := Lib.hid hd
  have HOK := Lib.hid hok
  have HB := Lib.hid (bad_any s w hT (by omega))
  clear hd hok hT
  go_enter Tryd.func10, Tryd.ntmps10
  go_wp2_with fail
  refine HB.out.mono ?_
  rintro e w1 ⟨i, rfl, hi, hb⟩
  have h1 : i < 0 := hi.2 HOK.out
  obtain ⟨cap, w2, hconv, hr, hb2⟩ := conv_runes_run (P := Tryd.prog) w1 9 27 21 s Tryd.underlying9 Tryd.underlying27 Tryd.underlying21 (by omega)
  rw [HD.out] at hconv hr
  have HR := Lib.hid hr
  have HB2 := Lib.hid (hb.trans (hb2.mono hb.size))
  clear hi hb hb2 hr
  go_wp2
  go_ret2
  exact ⟨_, cap, rfl, HR.out, HB2.out⟩

set_option maxHeartbeats 1000000 in
theorem runes_no (s : ByteArray) (w : World) (hT : Tabs w) (hs : s.size ≤ 1099511627776) (hn : ¬ okText s.data.toList) :
    Calls Tryd.prog 10 #[.string s] w (RunesNo w) := by
  have HN := Lib.hid hn
  have HB := Lib.hid (bad_any s w hT (by omega))
  clear hn hT
  go_enter Tryd.func10, Tryd.ntmps10
  go_wp2_with fail
  refine HB.out.mono ?_
  rintro e w1 ⟨i, rfl, hi, hb⟩
  have h1 : 0 ≤ i := by
    rcases Int.lt_or_le i 0 with h | h
    · exact absurd (hi.1 h) HN.out
    · exact h
  clear hi
  go_wp2
  go_ret2
  exact ⟨rfl, hb⟩

/-- where rune n begins, and whether there is such a place -/
def cutAt (rs : List Int) (n : Int) : Int := if 0 ≤ n ∧ n ≤ rs.length then ((encs (rs.take n.toNat)).length : Int) else 0
def cutErr (rs : List Int) (n : Int) : Int := if 0 ≤ n ∧ n ≤ rs.length then 0 else 1
def CutPost (a b : Int) (w : World) (e : Ending) (w' : World) : Prop := e = .returned (.tuple #[.int .i64 a, .int .i64 b]) ∧ Below w.heap.size w w'

set_option maxHeartbeats 1000000 in
theorem cut_no (s : ByteArray) (n : Int) (w : World) (hT : Tabs w) (hs : s.size ≤ 1099511627776) (hn : ¬ okText s.data.toList) :
    Calls Tryd.prog 11 #[.string s, .int .i64 n] w (CutPost 0 3 w) := by
  have HN := Lib.hid hn
  have HB := Lib.hid (bad_any s w hT (by omega))
  clear hn hT
  go_enter Tryd.func11, Tryd.ntmps11
  go_wp2_with fail
  refine HB.out.mono ?_
  rintro e w1 ⟨i, rfl, hi, hb⟩
  have h1 : 0 ≤ i := by
    rcases Int.lt_or_le i 0 with h | h
    · exact absurd (hi.1 h) HN.out
    · exact h
  clear hi
  go_wp2
  go_ret2
  exact ⟨rfl, hb⟩

set_option maxHeartbeats 2000000 in
theorem cut_yes (s : ByteArray) (rs : List Int) (n : Int) (w : World) (hT : Tabs w) (hs : s.size ≤ 1099511627776) (hg : rs.all good = true) (hl : s.data.toList = encs rs) :
    Calls Tryd.prog 11 #[.string s, .int .i64 n] w (CutPost (cutAt rs n) (cutErr rs n) w) := by
  have hok : okText s.data.toList := ⟨rs, hg, hl⟩
  have hlen : s.size = (encs rs).length := by rw [Lib.size_eq, hl]
  have HG := Lib.hid hg
  have HL := Lib.hid hl
  have HLN := Lib.hid hlen
  have HOK := Lib.hid hok
  have HB := Lib.hid (bad_any s w hT (by omega))
  clear hok hT hg hl hlen
  go_enter Tryd.func11, Tryd.ntmps11
  go_wp2_with fail
  refine HB.out.mono ?_
  rintro e w1 ⟨i, rfl, hi, hb⟩
  have h1 : i < 0 := hi.2 HOK.out
  have hsz1 := hb.size
  clear hi
  go_wp2
  obtain ⟨B, hB⟩ : ∃ B, B = w1.heap.size := ⟨_, rfl⟩
  have HBB := Lib.hid hB
  go_loopw [6] (fun kv wr => ∃ j pos : Nat, kv = .int .i64 j ∧ wr.heap[w1.heap.size]? = some (.stringIter s pos) ∧ Below w.heap.size w wr ∧ j ≤ rs.length ∧ Hid (pos = (encs (rs.take j)).length) ∧ (n < 0 ∨ (j : Int) ≤ n) ∧ pos ≤ s.size ∧ j ≤ pos) (fun _ wr => s.size - wr.iterPos w1.heap.size)
  case atStart =>
    exact ⟨0, 0, rfl, World.iter_heap w1 s 0, hb.alloc hsz1 _, Nat.zero_le _, rfl, by omega, Nat.zero_le _, Nat.le_refl _⟩
  case round =>
    clear hb
    obtain ⟨j, pos, rfl, hit, hb, hj, hpj, hnj, hps, hjp⟩ := hrel
    by_cases hp : pos < s.size
    · have hnx : ∀ ty, (Instr.next (.pointer (some ⟨w1.heap.size, 0, none⟩)) true ty).run Tryd.prog wr = _ := fun ty => Lib.run_next_any_at wr w1.heap.size s pos ty hit hp
      have hjl : j < rs.length := by
        rcases Nat.lt_or_ge j rs.length with h | h
        · exact h
        · have h2 := hpj.out
          rw [List.take_of_length_le h, ← HLN.out] at h2
          omega
      obtain ⟨r, hgr, e1, e2, e3, e4⟩ := at_rune rs HG.out j hjl
      rw [← hpj.out] at e2 e3
      have hdd := Lib.decodeL_drop s pos
      rw [HL.out, e2] at hdd
      rw [← hdd] at hnx
      obtain ⟨d, hd⟩ : ∃ d, d = (Lib.encodeRune r).length := ⟨_, rfl⟩
      have hd1 := (enc_len r).1
      have hle : (encs (rs.take (j + 1))).length ≤ s.size := by
        rw [HLN.out]
        have h8 : encs rs = encs (rs.take (j + 1)) ++ encs (rs.drop (j + 1)) := by rw [← encs_append, List.take_append_drop]
        rw [h8, List.length_append]; omega
      rw [e3] at hle
      rw [← hd] at hnx e3 hd1 hle
      have E3 := Lib.hid e3
      have hit2 := Lib.iterAt_heap wr w1.heap.size s pos (pos + d) hit
      have hb2 := Lib.below_iterAt hb (k := w1.heap.size) hsz1 s (pos + d)
      clear hdd e1 e2 e3 e4 hd hgr
      by_cases hjn : (j : Int) = n
      · subst hjn
        have hca : cutAt rs (j : Int) = (pos : Int) := by
          unfold cutAt; rw [if_pos (by omega), Int.toNat_natCast, hpj.out]
        have hce : cutErr rs (j : Int) = 0 := by unfold cutErr; rw [if_pos (by omega)]
        have HCA := Lib.hid hca
        have HCE := Lib.hid hce
        clear hca hce
        go_wp2
        go_ret2
        exact ⟨by rw [HCA.out, HCE.out]; rfl, hb2⟩
      · have hjn2 : ((j : Int) == n) = false := by simpa using hjn
        go_wp2
        go_roundw
        case rel => exact ⟨j + 1, pos + d, by go_num, hit2, hb2, hjl, E3.out.symm, by omega, hle, by omega⟩
        case measure =>
          simp only [World.iterPos, hit2, hit]
          omega
    · have hnx : ∀ ty, (Instr.next (.pointer (some ⟨w1.heap.size, 0, none⟩)) true ty).run Tryd.prog wr = _ := fun ty => Lib.run_next_end_at wr w1.heap.size s pos ty hit hp
      have hjl : j = rs.length := by
        rcases Nat.lt_or_ge j rs.length with h | h
        · obtain ⟨r, -, -, -, -, e4⟩ := at_rune rs HG.out j h
          rw [← hpj.out, ← HLN.out] at e4
          omega
        · omega
      by_cases hjn : (j : Int) = n
      · have hca : cutAt rs n = (s.size : Int) := by
          unfold cutAt; rw [if_pos (by omega), show n.toNat = rs.length by omega, List.take_of_length_le (Nat.le_refl _), HLN.out]
        have hce : cutErr rs n = 0 := by unfold cutErr; rw [if_pos (by omega)]
        have HCA := Lib.hid hca
        have HCE := Lib.hid hce
        clear hca hce
        subst hjn
        go_wp2
        go_ret2
        exact ⟨by rw [HCA.out, HCE.out]; rfl, hb⟩
      · have hca : cutAt rs n = 0 := by unfold cutAt; rw [if_neg (by omega)]
        have hce : cutErr rs n = 1 := by unfold cutErr; rw [if_neg (by omega)]
        have HCA := Lib.hid hca
        have HCE := Lib.hid hce
        have hjn2 : ((j : Int) == n) = false := by simpa using hjn
        clear hca hce
        go_wp2
        go_ret2
        exact ⟨by rw [HCA.out, HCE.out]; rfl, hb⟩

def EqualPost (w : World) (e : Ending) (w' : World) : Prop := e = .returned (.bool true) ∧ Below w.heap.size w w'

set_option maxHeartbeats 400000 in
theorem runesEqual_any (ad bd : Option Addr) (ca cb : Nat) (xs : List Int) (w : World) (h : Rd .i32 w ad ca xs) (g : Rd .i32 w bd cb xs) :
    Calls Tryd.prog 12 #[.slice ad xs.length ca, .slice bd xs.length cb] w (EqualPost w) := by
  have hl : (xs.length : Int) ≤ 9223372036854775807 := by have := h.ncap; have := h.cap63; omega
  by_cases h0 : xs.length = 0
  · obtain rfl : xs = [] := List.eq_nil_of_length_eq_zero h0
    go_enter Tryd.func12, Tryd.ntmps12
    go_wp2
    refine wp_loop_rounds 1 ?_
    rw [rounds_succ]
    go_wp2
    go_ret
    exact ⟨rfl, Below.refl _ _⟩
  obtain ⟨b1, o1, rfl, -, hc1⟩ := h.addr (by omega)
  obtain ⟨b2, o2, rfl, -, hc2⟩ := g.addr (by omega)
  have HC1 := Lib.hid hc1
  have HC2 := Lib.hid hc2
  clear hc1 hc2 h g h0
  go_enter Tryd.func12, Tryd.ntmps12
  go_wp2
  go_loopw [13] (fun i wr => ∃ k : Nat, k ≤ xs.length ∧ i = .int .i64 k ∧ Hid (∃ n, wr = w.drewN n)) (fun i _ => xs.length - (intOf i).toNat)
  case atStart => exact ⟨0, Nat.zero_le _, rfl, 0, rfl⟩
  case round =>
    obtain ⟨k, hk, rfl, hw⟩ := hrel
    by_cases hlt : k < xs.length
    · obtain ⟨x, hx⟩ : ∃ x, x = xs.getD k 0 := ⟨_, rfl⟩
      have hd1 : wr.cell? ⟨b1, o1 + k, none⟩ = some (.int .i32 x) := by obtain ⟨n, e⟩ := hw.out; rw [e, World.cell?_drewN, hx]; exact HC1.out k hlt
      have hd2 : wr.cell? ⟨b2, o2 + k, none⟩ = some (.int .i32 x) := by obtain ⟨n, e⟩ := hw.out; rw [e, World.cell?_drewN, hx]; exact HC2.out k hlt
      clear hx
      have hi1 : (0 : Int) ≤ (k : Int) := by omega
      have hi2 : (k : Int) < (xs.length : Int) := by omega
      go_wp2
      go_quiet (fail)
      go_wp2
      go_roundw
      case rel => exact ⟨k + 1, by omega, by go_num, by obtain ⟨n, e⟩ := hw.out; exact ⟨n + nq, by rw [e, World.drewN_drewN]⟩⟩
      case measure => simp [intOf]; omega
    · obtain rfl : k = xs.length := by omega
      go_wp2
      go_ret
      obtain ⟨n, e⟩ := hw.out
      exact ⟨rfl, by rw [e]; exact Gx.drewN_below _ _ _⟩
end Go.Proofs.YtiklmgjacdoeoaaDoor
