/-
  The walk of typecasekeep.PathBack. Conditions: the steps lie where the argument says; the library's tables and errors; the text has at most 2^47 - 4096 bytes.
-/
import Derived.Test.YtopfkelhgffomaaDoorPathRead
namespace Go.Proofs.YtopfkelhgffomaaDoor
open Go.RowKit Gx
set_option maxRecDepth 100000

theorem stepText_len (x : Step) (h : StepOk x) (hw : x.2 ≤ 9223372036854775807) : (stepText x).length ≤ 700 := by
  obtain ⟨h1, h2, h3, h4⟩ := h
  unfold stepText
  split
  · have := keyText_len x.1 h4 h3
    simp; omega
  · have := itoa_le x.2 (by omega) hw
    simp; omega
theorem steps_len : ∀ l : List Step, (∀ x ∈ l, StepOk x ∧ x.2 ≤ 9223372036854775807) → (l.flatMap stepText).length ≤ 700 * l.length
  | [], _ => by simp
  | x :: l, h => by
    have h1 := h x (by simp)
    have h2 := steps_len l (fun y hy => h y (by simp [hy]))
    have h3 := stepText_len x h1.1 h1.2
    rw [List.flatMap_cons, List.length_append, List.length_cons]
    omega
theorem le_take {l : List Step} {j : Nat} {q : Step} (hq : l[j]? = some q) (h : ∀ x ∈ l.take j, x.2 ≤ 4611686018427387904) (h1 : q.2 ≤ 4611686018427387904) : ∀ x ∈ l.take (j + 1), x.2 ≤ 4611686018427387904 := by
  obtain ⟨hj, rfl⟩ := List.getElem?_eq_some_iff.1 hq
  rw [List.take_succ_eq_append_getElem hj]
  intro x hx
  rcases List.mem_append.1 hx with hx | hx
  · exact h x hx
  · rw [List.mem_singleton.1 hx]; exact h1

set_option maxHeartbeats 16000000 in
theorem pathBack_walk (ad : Option Addr) (cap : Nat) (l : List Step) (W : World) (h : SR W ad cap l) (s1 : ByteArray) (hT : PTabs W) (hs : s1.size ≤ 140737488351232) :
    Calls Tryd.prog 3 #[.slice ad l.length cap, .string s1] W fun e w' => e = .returned (.bool true) ∧ Below W.heap.size W w' := by
  have HP := Lib.hid h
  have HT := Lib.hid hT
  have H0 := Lib.hid (pathsOk_any W hT.e)
  unfold TrueP at H0
  have HTx := Lib.hid (fun w0 hb => pathTxt_any ad cap l w0 (h.keep hb) (hT.keep hb).e)
  unfold TextP at HTx
  have HR := Lib.hid (fun w0 h0 => read_any s1 w0 h0 hs)
  unfold ReadP at HR
  have HSM := Lib.hid (fun w0 hb bd cb (g : SR w0 bd cb l) (hl : l.length ≤ 20) => samePath_any ad bd cap cb l w0 (h.keep hb) g (by omega))
  unfold TrueP at HSM
  have hn63 : l.length ≤ 9223372036854775807 := Nat.le_trans h.ncap h.cap63
  clear h hT
  obtain ⟨n, hn⟩ : ∃ n, n = l.length := ⟨_, rfl⟩
  rw [← hn] at HTx HSM hn63 ⊢
  have HN := Lib.hid hn
  clear hn
  go_enter Tryd.func3, Tryd.ntmps3
  go_wp2_with fail
  refine H0.out.mono ?_
  rintro e w1 ⟨rfl, hb1⟩
  have HB1 := Lib.hid hb1
  clear hb1
  go_wp2_with fail
  refine (HTx.out w1 HB1.out).mono ?_
  rintro e w2 ⟨hres, hb2⟩
  obtain ⟨S0, c0, rfl, hc0⟩ : ∃ (S0 : ByteArray) (c0 : Int), e = .returned (.tuple #[.string S0, .int .i64 c0]) ∧ (c0 = 0 → PathOk l ∧ S0 = bs (pathText l)) := by
    rcases hres with ⟨hp, rfl⟩ | ⟨hp, c, hc, rfl⟩
    · exact ⟨_, _, rfl, fun _ => ⟨hp, rfl⟩⟩
    · exact ⟨_, _, rfl, fun h => absurd h hc⟩
  have HB2 := Lib.hid (HB1.out.trans (hb2.mono HB1.out.size))
  have HC0 := Lib.hid hc0
  clear hb2 hres hc0
  go_wp2_with fail
  go_loopw [6, 24] (fun x i wr => ∃ (j : Nat) (c : Int), j ≤ n ∧ i = .int .i64 j ∧ x = .int .i64 c ∧ Hid (c = 0 → c0 = 0 ∧ ∀ x ∈ l.take j, x.2 ≤ 4611686018427387904) ∧ Below W.heap.size W wr) (fun _ i _ => n - (intOf i).toNat)
  case atStart => exact ⟨0, c0, Nat.zero_le _, rfl, rfl, (fun h => ⟨h, fun x hx => by simp at hx⟩), HB2.out⟩
  case round =>
    obtain ⟨j, c, hj, rfl, rfl, hH, hb⟩ := hrel
    by_cases hlt : j < n
    · have hjl : j < l.length := by have := HN.out; omega
      obtain ⟨q, hq⟩ : ∃ q, l[j]? = some q := ⟨_, List.getElem?_eq_getElem hjl⟩
      obtain ⟨b, off, rfl, hbl, hcell⟩ := (HP.out.keep hb).addr (by omega)
      obtain ⟨d0, d1⟩ := hcell j q hq
      obtain ⟨p, N⟩ := q
      simp only at d0 d1
      have HQ := Lib.hid hq
      have HB := Lib.hid (hb.alloc hb.size (.cells #[.string (bs p), .int .i64 N] 28))
      have hi1 : (0 : Int) ≤ (j : Int) := by omega
      have hi2 : (j : Int) < (n : Int) := by omega
      clear hcell hq hb hjl hbl
      by_cases k1 : 4611686018427387904 < N
      · have t1 : decide (4611686018427387904 < N) = true := decide_eq_true k1
        go_wp2_with fail
        go_roundw
        case rel => exact ⟨j + 1, 1, by omega, by go_num, rfl, (fun h => by simp at h), HB.out⟩
        case measure => simp [intOf]; omega
      · have t1 : decide (4611686018427387904 < N) = false := decide_eq_false k1
        have HNX := Lib.hid (show c = 0 → c0 = 0 ∧ ∀ x ∈ l.take (j + 1), x.2 ≤ 4611686018427387904 from fun h => ⟨(hH.out h).1, le_take HQ.out (hH.out h).2 (by simp only; omega)⟩)
        go_wp2_with fail
        go_roundw
        case rel => exact ⟨j + 1, c, by omega, by go_num, rfl, HNX.out, HB.out⟩
        case measure => simp [intOf]; omega
    · obtain rfl : j = n := by omega
      have HB := Lib.hid hb
      clear hb
      by_cases hc : c = 0
      · subst hc
        obtain ⟨g0, g1⟩ := hH.out rfl
        obtain ⟨gp, gs⟩ := HC0.out g0
        rw [HN.out, List.take_length] at g1
        have hlen : (pathText l).length ≤ 100000 := by
          have h1 := steps_len l (fun x hx => ⟨gp.2 x hx, by have := g1 x hx; omega⟩)
          have h2 := gp.1
          unfold pathText
          rw [List.length_cons]
          omega
        have HR0 := Lib.hid (read_any S0 wr (HT.out.keep HB.out) (by rw [gs, bs_size]; omega))
        unfold ReadP at HR0
        have hrd : ReadOk S0.data.toList l := by
          rw [gs, list_bs]
          exact ⟨rfl, path_read l gp g1, gp, rfl⟩
        have HRD := Lib.hid hrd
        have HGP := Lib.hid gp
        clear g0 g1 gp gs hlen hrd
        go_wp2_with fail
        refine HR0.out.mono ?_
        rintro e w3 ⟨⟨q, qa, qc, hok, rfl, hsr⟩ | ⟨hno, rfl⟩, hb3⟩
        · have hq : q = l := by
            have e1 := hok.2.1
            rw [HRD.out.2.1] at e1
            exact (Option.some.inj e1).symm
          subst hq
          have HB3 := Lib.hid (HB.out.trans (hb3.mono HB.out.size))
          have HS := Lib.hid (HSM.out w3 HB3.out qa qc hsr (by rw [HN.out]; exact HGP.out.1))
          rw [← HN.out]
          clear hsr hb3 hok
          go_wp2_with fail
          refine HS.out.mono ?_
          rintro e w4 ⟨rfl, hb4⟩
          have HB4 := Lib.hid (HB3.out.trans (hb4.mono HB3.out.size))
          clear hb4
          go_wp2_with fail
          refine (HR.out w4 (HT.out.keep HB4.out)).mono ?_
          rintro e w6 ⟨⟨q, qa, qc, hok, rfl, hsr⟩ | ⟨hno, rfl⟩, hb6⟩
          · have HB6 := Lib.hid (HB4.out.trans (hb6.mono HB4.out.size))
            have HX := Lib.hid (pathTxt_any qa qc q w6 hsr (HT.out.keep HB6.out).e)
            unfold TextP at HX
            have hs : bs (pathText q) = s1 := by rw [hok.2.2.2, ← bs_of]
            rw [hs] at HX
            have HOK := Lib.hid hok
            clear hsr hb6 hok hs
            go_wp2_with fail
            refine HX.out.mono ?_
            rintro e w7 ⟨⟨-, rfl⟩ | ⟨hn, -⟩, hb7⟩
            · have HB7 := Lib.hid (HB6.out.trans (hb7.mono HB6.out.size))
              clear hb7
              go_wp2_with fail
              try go_ret
              exact ⟨rfl, HB7.out⟩
            · exact absurd HOK.out.2.2.1 hn
          · have HB6 := Lib.hid (HB4.out.trans (hb6.mono HB4.out.size))
            clear hb6 hno
            go_wp2_with fail
            try go_ret
            exact ⟨rfl, HB6.out⟩
        · exact absurd HRD.out (hno l)
      · have t0 : (c == 0) = false := by simpa using hc
        go_wp2_with fail
        refine (HR.out wr (HT.out.keep HB.out)).mono ?_
        rintro e w6 ⟨⟨q, qa, qc, hok, rfl, hsr⟩ | ⟨hno, rfl⟩, hb6⟩
        · have HB6 := Lib.hid (HB.out.trans (hb6.mono HB.out.size))
          have HX := Lib.hid (pathTxt_any qa qc q w6 hsr (HT.out.keep HB6.out).e)
          unfold TextP at HX
          have hs : bs (pathText q) = s1 := by rw [hok.2.2.2, ← bs_of]
          rw [hs] at HX
          have HOK := Lib.hid hok
          clear hsr hb6 hok hs
          go_wp2_with fail
          refine HX.out.mono ?_
          rintro e w7 ⟨⟨-, rfl⟩ | ⟨hn, -⟩, hb7⟩
          · have HB7 := Lib.hid (HB6.out.trans (hb7.mono HB6.out.size))
            clear hb7
            go_wp2_with fail
            try go_ret
            exact ⟨rfl, HB7.out⟩
          · exact absurd HOK.out.2.2.1 hn
        · have HB6 := Lib.hid (HB.out.trans (hb6.mono HB.out.size))
          clear hb6 hno
          go_wp2_with fail
          try go_ret
          exact ⟨rfl, HB6.out⟩
end Go.Proofs.YtopfkelhgffomaaDoor
