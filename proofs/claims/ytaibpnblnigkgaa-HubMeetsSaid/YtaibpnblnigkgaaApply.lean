/-
  The contracts of splice.Apply. Conditions: the parts lie where the argument says.
-/
import Derived.Test.YtaibpnblnigkgaaNorm
import Derived.Test.YtaibpnblnigkgaaStr
namespace Go.Proofs.Ytaibpnblnigkgaa
open Go.RowKit Gx

/-- why a change can't be made to a text -/
def apErr (s : List UInt8) (l : List Part) : Int := if chk l = 0 then (if U.over (ex l) = s.length then 0 else 1) else chk l
/-- what a change makes of a text -/
def apT (s : List UInt8) (l : List Part) : List UInt8 := U.app id (ex l) s

theorem app_le {α : Type} (f : UInt8 → α) (xs : List U) (s : List α) : (U.app f xs s).length ≤ U.makes xs := by
  induction xs generalizing s with
  | nil => simp [U.app]
  | cons u r ih =>
    cases u with
    | k => cases s with
      | nil => have := ih []; simp only [U.app, U.makes]; omega
      | cons a s => have := ih s; simp only [U.app, U.makes, List.length_cons]; omega
    | c => have := ih (s.drop 1); simp only [U.app, U.makes]; omega
    | p b => have := ih s; simp only [U.app, U.makes, List.length_cons]; omega

theorem app_take (l : List Part) (j : Nat) (q : Part) (h : l[j]? = some q) (s : List UInt8) :
    U.app id (ex (l.take (j + 1))) s = U.app id (ex (l.take j)) s ++ U.app id (ex1 q) (s.drop (U.over (ex (l.take j)))) := by
  rw [ex_take l j q h, U.app_append]
theorem over_take (l : List Part) (j : Nat) (q : Part) (h : l[j]? = some q) : U.over (ex (l.take (j + 1))) = U.over (ex (l.take j)) + U.over (ex1 q) := by
  rw [ex_take l j q h, U.over_append]

/-- a text and how far it is read: 'rest' is what a change has not yet gone over -/
structure RestAt (S : List UInt8) (l : List Part) (j ov : Nat) (t : ByteArray) : Prop where
  t : t = bs (S.drop ov)
  ov : ov = U.over (ex (l.take j))

theorem bs_front (l : List UInt8) (n : Nat) : (bs l).extract 0 n = bs (l.take n) := by rw [bs_extract]; rfl
theorem bs_back (l : List UInt8) (n : Nat) : (bs l).extract n (bs l).size = bs (l.drop n) := by rw [bs_extract, bs_size, List.take_length]

theorem RestAt.cut {S : List UInt8} {l : List Part} {j ov : Nat} {t : ByteArray} (h : RestAt S l j ov t) {q : Part} (hq : l[j]? = some q) (n : Nat) (hn : U.over (ex1 q) = n) : RestAt S l (j + 1) (ov + n) (t.extract n t.size) := by
  refine ⟨?_, ?_⟩
  · rw [h.t, bs_back, List.drop_drop]
  · rw [over_take l j q hq, h.ov, hn]
theorem RestAt.stay {S : List UInt8} {l : List Part} {j ov : Nat} {t : ByteArray} (h : RestAt S l j ov t) {q : Part} (hq : l[j]? = some q) (hn : U.over (ex1 q) = 0) : RestAt S l (j + 1) ov t :=
  ⟨h.t, by rw [over_take l j q hq, h.ov, hn]; rfl⟩

set_option maxHeartbeats 4000000 in
theorem Apply_ok (s : ByteArray) (ad : Option Addr) (cap : Nat) (l : List Part) (w : World) (h : PR w ad cap l) (hl : apErr s.data.toList l = 0) :
    Calls Try.prog 9 #[.string s, .slice ad l.length cap] w fun e w' => e = .returned (.tuple #[.string (bs (apT s.data.toList l)), .int .i64 0]) ∧ Below w.heap.size w w' := by
  have hc : chk l = 0 := by unfold apErr at hl; split at hl; assumption; exact hl
  have ho : U.over (ex l) = s.data.toList.length := by
    unfold apErr at hl
    rw [if_pos hc] at hl
    split at hl
    · assumption
    · cases hl
  have hss : s.data.toList.length = s.size := Array.length_toList
  obtain ⟨hlen, hpe, hov, hmk⟩ := chk_zero.1 hc
  have HP := Lib.hid h
  have HC := Lib.hid hc
  have HO := Lib.hid ho
  have HPE := Lib.hid hpe
  have HMK := Lib.hid hmk
  have hsz : s.size ≤ 20000 := by omega
  obtain ⟨n, hn⟩ : ∃ n, n = l.length := ⟨_, rfl⟩
  obtain ⟨S, hS⟩ : ∃ S, S = s.data.toList := ⟨_, rfl⟩
  have hov2 : U.over (ex l) = s.size := by omega
  obtain ⟨OV, hOV⟩ : ∃ O, O = U.over (ex l) := ⟨_, rfl⟩
  have hck := Lib.hid (check_ok ad cap l w h hc)
  rw [← hOV] at hov2 hck
  rw [← hn] at hlen hck ⊢
  rw [← hS] at HO hss ⊢
  have HN := Lib.hid hn
  have HS := Lib.hid hS
  have HOV := Lib.hid hOV
  have HSS := Lib.hid hss
  clear h hl hc ho hpe hmk hn hS hov hOV hss
  subst hov2
  go_enter Try.func9, Try.ntmps9
  go_wp2_with fail
  refine hck.out.mono ?_
  rintro e w1 ⟨rfl, hb1⟩
  have HB1 := Lib.hid hb1
  have hz1 := hb1.size
  clear hb1 hck
  go_wp2
  go_loopw [0, 31] (fun v i wr => ∃ (j ov : Nat) (t : ByteArray) (out : List UInt8), j ≤ n ∧ i = .int .i64 j ∧ v = .string t ∧ Hid (RestAt S l j ov t) ∧ Hid (out = U.app id (ex (l.take j)) S) ∧ t.size + ov = s.size ∧
      Hid (Lib.IsBuilderF 60 5 w1.heap.size w1.heap.size (Lib.byteCells out) wr) ∧ Hid (Below w1.heap.size w1 wr) ∧ w1.heap.size < wr.heap.size) (fun _ i _ => n - (intOf i).toNat)
  case atStart => exact ⟨0, 0, s, [], Nat.zero_le _, rfl, rfl, ⟨by rw [HS.out]; rfl, rfl⟩, rfl, by omega, Lib.IsBuilderF.of (Lib.fresh_isBuilder 60 5 w1), (Below.refl _ w1).alloc (Nat.le_refl _) _, by simp⟩
  case round =>
    obtain ⟨j, ov, t, out, hj, rfl, rfl, hR, hout, hts, hI, hb, hws⟩ := hrel
    by_cases hlt : j < n
    · have hjl : j < l.length := by have := HN.out; omega
      obtain ⟨q, hq⟩ : ∃ q, l[j]? = some q := ⟨_, List.getElem?_eq_getElem hjl⟩
      obtain ⟨b, off, rfl, hbl, hcell⟩ := ((HP.out.keep HB1.out).keep hb.out).addr (by omega)
      obtain ⟨c0, c1, c2⟩ := hcell j q hq
      have hqm := List.mem_of_getElem? hq
      obtain ⟨hqok, hqn, hqs⟩ := partErr_ok (HPE.out q hqm)
      have hto := take_bound l (j + 1)
      have hot := over_take l j q hq
      have hro := hR.out.ov
      have hNs : U.over (ex1 q) ≤ t.size := by have := HOV.out; omega
      have hol : out.length ≤ 20000 := by
        have h1 := app_le id (ex (l.take j)) S
        rw [← hout.out] at h1
        have h2 := take_bound l j
        have h3 := HMK.out
        omega
      have hap := app_take l j q hq S
      rw [← hout.out, ← hro] at hap
      have HAP := Lib.hid hap
      have HQ := Lib.hid hq
      have hsb := hb.out.size
      have hbw := Lib.hid (hb.out.alloc hsb (.cells #[.int .i64 q.1, .int .i64 q.2.1, .string (bs q.2.2)] 54))
      have hIw := Lib.hid (hI.out.alloc (.cells #[.int .i64 q.1, .int .i64 q.2.1, .string (bs q.2.2)] 54))
      have hi1 : (0 : Int) ≤ (j : Int) := by omega
      have hi2 : (j : Int) < (n : Int) := by omega
      clear hcell hq hjl hqm hto hot hro hb hI hap hbl
      obtain ⟨kind, N, p⟩ := q
      obtain ⟨hk, hN0, h3, h4⟩ := hqok
      simp only at *
      obtain ⟨N, rfl⟩ : ∃ M : Nat, N = M := ⟨N.toNat, by omega⟩
      rcases hk with rfl | rfl | rfl
      · obtain rfl := h4 (by decide)
        clear h3 h4
        have hex : U.over (ex1 (1, (N : Int), [])) = N := by simp [ex1, U.over_ks]
        rw [hex] at hNs
        have happ : U.app id (ex1 (1, (N : Int), [])) (S.drop ov) = (S.drop ov).take N := by simp [ex1, U.app_ks]
        rw [happ] at HAP
        have hR2 := Lib.hid (hR.out.cut HQ.out N hex)
        have hfr : t.extract 0 N = bs ((S.drop ov).take N) := by rw [hR.out.t, bs_front]
        have HFR := Lib.hid hfr
        have HEX := Lib.hid hex
        clear hex happ hR hfr
        have HW := Lib.hid (Ytaibpnblnigkgaa.writeStr w1.heap.size w1.heap.size (Lib.byteCells out) (t.extract 0 N) _ hIw.out (by rw [Lib.byteCells_length]; simp; omega) (by have := hbw.out.size; exact this))
        go_wp2_with fail
        refine HW.out.mono ?_
        rintro e w2 ⟨rfl, h1, bl, hk⟩
        have g1 : w2.cell? ⟨wr.heap.size, 1, none⟩ = some (.int .i64 N) := by
          have := hk wr.heap.size _ (heap_alloc_new wr _) (by intro e; have := Option.some.inj e; omega) (by intro c fz e; cases e)
          rw [cell_of_row w2 wr.heap.size 1 _ _ _ this]; rfl
        have hws2 : w1.heap.size < w2.heap.size := by have := bl.size; simp at this; omega
        clear hk
        have hI2 : Hid (Lib.IsBuilderF 60 5 w1.heap.size w1.heap.size (Lib.byteCells (out ++ (S.drop ov).take N)) w2) := by
          show Lib.IsBuilderF _ _ _ _ _ _
          rw [HFR.out, Lib.strCells_eq, list_bs, ← Lib.byteCells_append] at h1
          exact Or.inr h1
        have hb2 := Lib.hid (hbw.out.trans bl)
        have hout2 : Hid (out ++ (S.drop ov).take N = U.app id (ex (l.take (j + 1))) S) := HAP.out.symm
        clear h1 bl HW hIw hbw hout HAP HFR
        go_wp2
        go_roundw
        case rel => exact ⟨j + 1, ov + N, t.extract N t.size, out ++ (S.drop ov).take N, by omega, by go_num, by go_num, hR2, hout2, by simp; omega, hI2, hb2, hws2⟩
        case measure => simp [intOf]; omega
      · obtain rfl := h4 (by decide)
        clear h3 h4
        have hex : U.over (ex1 (2, (N : Int), [])) = N := by simp [ex1, U.over_cs]
        rw [hex] at hNs
        have happ : U.app id (ex1 (2, (N : Int), [])) (S.drop ov) = [] := by simp [ex1, U.app_cs]
        rw [happ, List.append_nil] at HAP
        have hR2 := Lib.hid (hR.out.cut HQ.out N hex)
        have hout2 : Hid (out = U.app id (ex (l.take (j + 1))) S) := HAP.out.symm
        clear hex happ hR HAP hout
        go_wp2
        go_roundw
        case rel => exact ⟨j + 1, ov + N, t.extract N t.size, out, by omega, by go_num, by go_num, hR2, hout2, by simp; omega, hIw, hbw, by simp; omega⟩
        case measure => simp [intOf]; omega
      · have h3' := h3 rfl
        obtain rfl : N = 0 := by omega
        clear h3 h4 h3'
        have hex : U.over (ex1 (3, ((0 : Nat) : Int), p)) = 0 := by simp [ex1, U.over_ps]
        have happ : U.app id (ex1 (3, ((0 : Nat) : Int), p)) (S.drop ov) = p := by simp [ex1, U.app_ps]
        rw [happ] at HAP
        have hR2 := Lib.hid (hR.out.stay HQ.out hex)
        have hout2 : Hid (out ++ p = U.app id (ex (l.take (j + 1))) S) := HAP.out.symm
        clear hex happ hR HAP hout
        have HW := Lib.hid (Ytaibpnblnigkgaa.writeStr w1.heap.size w1.heap.size (Lib.byteCells out) (bs p) _ hIw.out (by rw [Lib.byteCells_length, bs_size]; omega) (by have := hbw.out.size; exact this))
        go_wp2_with fail
        refine HW.out.mono ?_
        rintro e w2 ⟨rfl, h1, bl, -⟩
        have hws2 : w1.heap.size < w2.heap.size := by have := bl.size; simp at this; omega
        have hI2 : Hid (Lib.IsBuilderF 60 5 w1.heap.size w1.heap.size (Lib.byteCells (out ++ p)) w2) := by
          show Lib.IsBuilderF _ _ _ _ _ _
          rw [Lib.strCells_eq, list_bs, ← Lib.byteCells_append] at h1
          exact Or.inr h1
        have hb2 := Lib.hid (hbw.out.trans bl)
        clear h1 bl HW hIw hbw
        go_wp2
        go_roundw
        case rel => exact ⟨j + 1, ov, t, out ++ p, by omega, by go_num, rfl, hR2, hout2, hts, hI2, hb2, hws2⟩
        case measure => simp [intOf]; omega
    · obtain rfl : j = n := by omega
      have hT : out = apT S l := by rw [hout.out, HN.out, List.take_length]; rfl
      have HT := Lib.hid hT
      clear hT hout
      go_wp2_with fail
      refine (Ytaibpnblnigkgaa.built w1.heap.size w1.heap.size out wr hI.out hb.out.size).mono ?_
      rintro e w2 ⟨rfl, -, bl⟩
      have hb2 := Lib.hid (HB1.out.trans ((hb.out.trans bl).mono hz1))
      clear bl
      go_wp2
      go_ret2
      exact ⟨by rw [HT.out]; rfl, hb2.out⟩

theorem Apply_no (s : ByteArray) (ad : Option Addr) (cap : Nat) (l : List Part) (w : World) (h : PR w ad cap l) (hl : apErr s.data.toList l ≠ 0) :
    Calls Try.prog 9 #[.string s, .slice ad l.length cap] w fun e w' => e = .returned (.tuple #[.string ⟨#[]⟩, .int .i64 (apErr s.data.toList l)]) ∧ Below w.heap.size w w' := by
  have hss : s.data.toList.length = s.size := Array.length_toList
  by_cases hc : chk l = 0
  · have ho : U.over (ex l) ≠ s.size := by
      intro e; apply hl; unfold apErr; rw [if_pos hc, if_pos (by omega)]
    have he : apErr s.data.toList l = 1 := by unfold apErr; rw [if_pos hc, if_neg (by omega)]
    have hck := Lib.hid (check_ok ad cap l w h hc)
    obtain ⟨OV, hOV⟩ : ∃ O, O = U.over (ex l) := ⟨_, rfl⟩
    rw [← hOV] at hck ho
    rw [he]
    clear h hl hc hOV he hss
    have t1 : decide ((OV : Int) = (s.size : Int)) = false := decide_eq_false (by omega)
    go_enter Try.func9, Try.ntmps9
    go_wp2_with fail
    refine hck.out.mono ?_
    rintro e w1 ⟨rfl, hb1⟩
    have HB1 := Lib.hid hb1
    clear hb1 hck
    go_wp2
    go_ret2
    exact ⟨rfl, HB1.out⟩
  · have he : apErr s.data.toList l = chk l := by unfold apErr; rw [if_neg hc]
    rw [he]
    have hck := Lib.hid (check_no ad cap l w h hc)
    obtain ⟨c, hcc⟩ : ∃ c, c = chk l := ⟨_, rfl⟩
    rw [← hcc] at hck hc ⊢
    clear h hl hcc he hss
    have t1 : decide (c = 0) = false := decide_eq_false hc
    go_enter Try.func9, Try.ntmps9
    go_wp2_with fail
    refine hck.out.mono ?_
    rintro e w1 ⟨rfl, hb1⟩
    have HB1 := Lib.hid hb1
    clear hb1 hck
    go_wp2
    go_ret2
    exact ⟨rfl, HB1.out⟩
end Go.Proofs.Ytaibpnblnigkgaa
