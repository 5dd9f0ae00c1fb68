/-
  The contracts of path.text, path.Text and typecasekeep.paths. Conditions: the steps lie where the arguments say; the library's tables.
-/
import Derived.Test.YtopfkelhgffomaaDoorPathChk
namespace Go.Proofs.YtopfkelhgffomaaDoor
open Go.RowKit Gx
set_option maxRecDepth 100000

theorem app_bs (a b : List UInt8) : bs a ++ bs b = bs (a ++ b) := bytes_of (by simp [bs])
theorem keyText_len (k : List UInt8) (hk : okText k) (h : k.length ≤ 100) : (keyText k).length ≤ 602 := by
  unfold keyText
  split
  · omega
  · obtain ⟨rs, hg, rfl⟩ := hk
    rw [decAll_encs rs hg]
    have := quotes_le rs hg
    unfold quoteOf
    simp
    omega
theorem keyOk_any (k : List UInt8) (hk : okText k) (hl : k.length ≤ 100) (w : World) (hT : ETabs w) : Calls Tryd.prog 14 #[.string (bs k)] w (StrErr (keyText k) 0 w) := by
  have hs := bs_size k
  unfold keyText
  by_cases hb : bareOf k = true
  · rw [if_pos hb]
    exact key_bare (bs k) w (by omega) hb
  · rw [if_neg hb]
    obtain ⟨rs, hg, rfl⟩ := hk
    rw [decAll_encs rs hg]
    exact key_quote (bs (encs rs)) _ 0 w (by omega) hT (by rw [list_bs]; simpa using hb) (fun w0 h0 => quote_yes _ rs w0 h0 (by omega) hg rfl)
def StrP (x : List UInt8) (w : World) (e : Ending) (w' : World) : Prop := e = .returned (.string (bs x)) ∧ Below w.heap.size w w'
theorem itoaAt (n : Int) (h0 : -9223372036854775808 ≤ n) (h1 : n ≤ 9223372036854775807) (w : World) (hT : NTabs w) : Calls Tryd.prog 15 #[.int .i64 n] w (StrP (Lib.itoa n) w) := by
  refine (Tryd.strconv_Itoa n h0 h1 w hT.2).mono ?_
  rintro e w2 ⟨rfl, k, os, rfl⟩
  exact ⟨rfl, below_grow w k os⟩
theorem itoa_le (n : Int) (h0 : 0 ≤ n) (h1 : n ≤ 9223372036854775807) : (Lib.itoa n).length ≤ 19 := by
  obtain ⟨m, rfl⟩ := Int.eq_ofNat_of_zero_le h0
  rw [itoa_text]
  exact decText_len m 19 (by omega) (by omega)
theorem flat_take {l : List Step} {j : Nat} {q : Step} (hq : l[j]? = some q) : (l.take (j + 1)).flatMap stepText = (l.take j).flatMap stepText ++ stepText q := by
  obtain ⟨hj, rfl⟩ := List.getElem?_eq_some_iff.1 hq
  rw [List.take_succ_eq_append_getElem hj, List.flatMap_append]
  simp

set_option maxHeartbeats 8000000 in
theorem text_any (ad : Option Addr) (cap : Nat) (l : List Step) (w : World) (h : SR w ad cap l) (hT : ETabs w) (hn : l.length ≤ 20) (hok : ∀ x ∈ l, StepOk x) :
    Calls Tryd.prog 9 #[.slice ad l.length cap] w (StrP (pathText l) w) := by
  have hP := Lib.hid h
  have HT := Lib.hid hT
  have HOK := Lib.hid hok
  clear h hT hok
  have hfin : ∀ (S : ByteArray) w', S = bs (36 :: (l.take l.length).flatMap stepText) → Below w.heap.size w w' → StrP (pathText l) w (.returned (.string S)) w' := by
    rintro S w' rfl hb
    rw [List.take_length]
    exact ⟨rfl, hb⟩
  have HFIN := Lib.hid hfin
  clear hfin
  generalize StrP (pathText l) w = POST at *
  obtain ⟨n, hnn⟩ : ∃ n, n = l.length := ⟨_, rfl⟩
  rw [← hnn] at hn HFIN ⊢
  have HN := Lib.hid hnn
  clear hnn
  go_enter Tryd.func9, Tryd.ntmps9
  go_wp2_with fail
  go_loopw [3, 10] (fun a i wr => ∃ (j : Nat) (S : ByteArray), j ≤ n ∧ i = .int .i64 j ∧ a = .string S ∧ S.size ≤ 1 + 700 * j ∧ Hid (S = bs (36 :: (l.take j).flatMap stepText)) ∧ Below w.heap.size w wr) (fun _ i _ => n - (intOf i).toNat)
  case atStart => exact ⟨0, ⟨#[36]⟩, Nat.zero_le _, rfl, rfl, by decide, rfl, Below.refl _ _⟩
  case round =>
    obtain ⟨j, S, hj, rfl, rfl, hS, hE, hb⟩ := hrel
    by_cases hlt : j < n
    · have hjl : j < l.length := by have := HN.out; omega
      obtain ⟨q, hq⟩ : ∃ q, l[j]? = some q := ⟨_, List.getElem?_eq_getElem hjl⟩
      obtain ⟨b, off, rfl, hbl, hcell⟩ := (hP.out.keep hb).addr (by omega)
      obtain ⟨c0, c1⟩ := hcell j q hq
      have hqo := HOK.out q (List.mem_of_getElem? hq)
      have hwf := (hP.out.wf q (List.mem_of_getElem? hq)).1
      obtain ⟨p, N⟩ := q
      obtain ⟨g1, g2, g3, g4⟩ := hqo
      simp only at c0 c1 g1 g2 g3 g4
      simp [Lit.wf, IntKind.min, IntKind.max, IntKind.signed, IntKind.bits] at hwf
      have HQ := Lib.hid hq
      have HB := Lib.hid hb
      have hi1 : (0 : Int) ≤ (j : Int) := by omega
      have hi2 : (j : Int) < (n : Int) := by omega
      have htk := flat_take hq
      clear hcell hq hb hjl
      have z7 := bs_size p
      have hok : ETabs (wr.alloc (.cells #[.string (bs p), .int .i64 N] 28)) := HT.out.keep (HB.out.alloc HB.out.size _)
      rcases Int.lt_or_le N 0 with k2 | k2
      · have t3 : decide (N < 0) = true := decide_eq_true (by omega)
        have hst : stepText (p, N) = 46 :: keyText p := if_pos k2
        rw [hst] at htk
        have HTK := Lib.hid htk
        have HC := Lib.hid (keyOk_any p g4 g3 _ hok)
        have hkl := keyText_len p g4 g3
        obtain ⟨K, hK⟩ : ∃ K, K = bs (keyText p) := ⟨_, rfl⟩
        have hKs : K.size = (keyText p).length := by rw [hK, bs_size]
        unfold StrErr at HC
        rw [show (⟨(keyText p).toArray⟩ : ByteArray) = K from hK.symm] at HC
        have HK := Lib.hid hK
        clear hok hst htk hK
        go_wp2_with fail
        refine HC.out.mono ?_
        rintro e0 w2 ⟨rfl, hb2⟩
        have HB2 := Lib.hid ((HB.out.alloc HB.out.size _).trans (hb2.mono (HB.out.alloc HB.out.size (.cells #[.string (bs p), .int .i64 N] 28)).size))
        clear hb2
        go_wp2_with fail
        go_roundw
        case rel => exact ⟨j + 1, _, by omega, by go_num, rfl, by rw [ByteArray.size_append, ByteArray.size_append]; show S.size + (1 + K.size) ≤ _; omega, by
          show _ = _
          rw [HTK.out, hE.out, HK.out, show (⟨#[46]⟩ : ByteArray) = bs [46] from rfl, app_bs, app_bs]; rfl, HB2.out⟩
        case measure => simp [intOf]; omega
      · obtain rfl : p = [] := g2 k2
        clear g2
        have t3 : decide (N < 0) = false := decide_eq_false (by omega)
        have hst : stepText ([], N) = 91 :: (Lib.itoa N ++ [93]) := if_neg (by simp only; omega)
        rw [hst] at htk
        have HTK := Lib.hid htk
        have HC := Lib.hid (itoaAt N (by omega) (by omega) _ hok.n)
        have hkl := itoa_le N k2 (by omega)
        obtain ⟨K, hK⟩ : ∃ K, K = bs (Lib.itoa N) := ⟨_, rfl⟩
        have hKs : K.size = (Lib.itoa N).length := by rw [hK, bs_size]
        unfold StrP at HC
        rw [← hK] at HC
        have HK := Lib.hid hK
        clear hok hst htk hK
        go_wp2_with fail
        refine HC.out.mono ?_
        rintro e0 w2 ⟨rfl, hb2⟩
        have HB2 := Lib.hid ((HB.out.alloc HB.out.size _).trans (hb2.mono (HB.out.alloc HB.out.size (.cells #[.string (bs []), .int .i64 N] 28)).size))
        clear hb2
        go_wp2_with fail
        go_roundw
        case rel => exact ⟨j + 1, _, by omega, by go_num, rfl, by rw [ByteArray.size_append, ByteArray.size_append, ByteArray.size_append]; show S.size + (1 + K.size + 1) ≤ _; omega, by
          show _ = _
          rw [HTK.out, hE.out, HK.out, show (⟨#[91]⟩ : ByteArray) = bs [91] from rfl, show (⟨#[93]⟩ : ByteArray) = bs [93] from rfl, app_bs, app_bs, app_bs]; rfl, HB2.out⟩
        case measure => simp [intOf]; omega
    · obtain rfl : j = n := by omega
      go_wp2_with fail
      try go_ret
      exact HFIN.out S wr hE.out hb

/-- what path.Text hands back -/
def TextP (l : List Step) (w : World) (e : Ending) (w' : World) : Prop := ((PathOk l ∧ e = .returned (.tuple #[.string (bs (pathText l)), .int .i64 0])) ∨ (¬ PathOk l ∧ ∃ c : Int, c ≠ 0 ∧ e = .returned (.tuple #[.string ⟨#[]⟩, .int .i64 c]))) ∧ Below w.heap.size w w'
set_option maxHeartbeats 1000000 in
theorem pathTxt_any (ad : Option Addr) (cap : Nat) (l : List Step) (w : World) (h : SR w ad cap l) (hT : ETabs w) :
    Calls Tryd.prog 5 #[.slice ad l.length cap] w (TextP l w) := by
  have HC := Lib.hid (chkPath_any ad cap l w h hT.u)
  unfold ChkP at HC
  have HX := Lib.hid (fun w0 (hb : Below w.heap.size w w0) (hp : PathOk l) => text_any ad cap l w0 (h.keep hb) (hT.keep hb) hp.1 hp.2)
  unfold StrP at HX
  clear h hT
  generalize l.length = n at *
  go_enter Tryd.func5, Tryd.ntmps5
  go_wp2_with fail
  refine HC.out.mono ?_
  rintro e0 w2 ⟨c, rfl, hc, hb2⟩
  by_cases h0 : c = 0
  · subst h0
    have HP := Lib.hid (hc.1 rfl)
    have HX2 := Lib.hid (HX.out w2 hb2 HP.out)
    have HB := Lib.hid hb2
    clear hb2 hc
    go_wp2_with fail
    refine HX2.out.mono ?_
    rintro e0 w3 ⟨rfl, hb3⟩
    have HB3 := Lib.hid (HB.out.trans (hb3.mono HB.out.size))
    clear hb3
    go_wp2_with fail
    try go_ret2
    exact ⟨.inl ⟨HP.out, rfl⟩, HB3.out⟩
  · have t0 : (c != 0) = true := by simpa using h0
    have HP := Lib.hid (fun hp => h0 (hc.2 hp))
    have HB := Lib.hid hb2
    clear hb2 hc
    go_wp2_with fail
    try go_ret2
    exact ⟨.inr ⟨HP.out, c, h0, rfl⟩, HB.out⟩
set_option maxHeartbeats 1000000 in
theorem pathsOk_any (w : World) (hT : ETabs w) : Calls Tryd.prog 4 #[] w (TrueP w) := by
  have h := pathTxt_any none 0 [] w (SR.nil w none 0 (fun _ => rfl) (by decide)) hT
  have hp : PathOk [] := ⟨by decide, fun x hx => by simp at hx⟩
  unfold TextP at h
  have H := Lib.hid h
  have HP := Lib.hid hp
  clear h hp hT
  go_enter Tryd.func4, Tryd.ntmps4
  go_wp2_with fail
  refine H.out.mono ?_
  rintro e0 w1 ⟨h1 | ⟨h1, -⟩, hb⟩
  · obtain ⟨-, rfl⟩ := h1
    have HB := Lib.hid hb
    rw [show bs (pathText []) = ⟨#[36]⟩ from rfl]
    clear hb
    go_wp2_with fail
    try go_ret
    exact ⟨rfl, HB.out⟩
  · exact absurd HP.out h1
end Go.Proofs.YtopfkelhgffomaaDoor
