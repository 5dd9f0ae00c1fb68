/-
  The contract of float.literal. Condition: a bound on the length.
  The contracts of float.point and float.digits. Condition: the library's table of powers lies in the world.
  The contract of float.Read. No conditions.
-/
import Derived.Shelf.Unicode.PredsPay
import Derived.Lib.Repeat
import Derived.Lib.IndexBytes
import Derived.Test.YtldhmfkojaekfaaGreatDoorMeanGoodAllPartM
set_option linter.unusedVariables false
namespace Go.Proofs.YtldhmfkojaekfaaGreatDoor
open Go.RowKit Gx
set_option maxRecDepth 100000
def LitPost (l : List UInt8) (w : World) (e : Ending) (w' : World) : Prop :=
  (litOf l = none ∧ e = .returned (.tuple #[.string ⟨#[]⟩, .int .i64 0, .bool false]) ∧ Below w.heap.size w w') ∨
  (∃ (d : ByteArray) (x : Int), litOf l = some (d.data.toList, x) ∧ e = .returned (.tuple #[.string d, .int .i64 x, .bool true]) ∧ Below w.heap.size w w')

theorem bytes_nilFl {s : ByteArray} (h : s.size = 0) : s = ⟨#[]⟩ := by
  apply ByteArray.ext
  apply Array.toList_inj.1
  exact List.eq_nil_of_length_eq_zero (by rw [← Lib.size_eq]; exact h)
theorem list_nilFl {s : ByteArray} (h : s.size = 0) : s.data.toList = [] := List.eq_nil_of_length_eq_zero (by rw [← Lib.size_eq]; exact h)
theorem list_neFl {s : ByteArray} (h : 0 < s.size) : s.data.toList ≠ [] := by
  intro h2
  have := Lib.size_eq s
  rw [h2, List.length_nil] at this
  omega
theorem bytes_emFl {s : ByteArray} (h : 0 < s.size) : s.toList.isEmpty = false ∧ ¬ s.toList = [] := by
  have h3 : s.toList.length = s.size := by rw [Go.Lib.toList_data]; simp
  have : s.toList ≠ [] := by intro h4; rw [h4, List.length_nil] at h3; omega
  exact ⟨by cases h4 : s.toList with
    | nil => exact absurd h4 this
    | cons => rfl, this⟩
theorem byte_isFl (b c : UInt8) : ((b.toNat : Int) == (c.toNat : Int)) = decide (b = c) := by
  rw [Bool.eq_iff_iff, beq_iff_eq, decide_eq_true_eq]
  constructor
  · intro h; exact UInt8.toNat_inj.1 (by omega)
  · rintro rfl; rfl
theorem byte_nFl (b : UInt8) (c : UInt8) (n : Int) (hn : n = (c.toNat : Int)) (h : b ≠ c) : ((b.toNat : Int) == n) = false ∧ ((b.toNat : Int) != n) = true := by
  subst hn
  have := byte_isFl b c
  rw [decide_eq_false h] at this
  exact ⟨this, by unfold bne; rw [this]; rfl⟩
theorem byte_yFl (b : UInt8) (c : UInt8) (n : Int) (hn : n = (c.toNat : Int)) (h : b = c) : ((b.toNat : Int) == n) = true ∧ ((b.toNat : Int) != n) = false := by
  subst hn
  have := byte_isFl b c
  rw [decide_eq_true h] at this
  exact ⟨this, by unfold bne; rw [this]; rfl⟩

theorem litOf_no1 (l : List UInt8) (h : l.takeWhile isDigit = [] ∨ ((l.takeWhile isDigit).head? = some 48 ∧ 1 < (l.takeWhile isDigit).length) ∨ l.dropWhile isDigit = []) : litOf l = none := by
  unfold litOf; rw [if_pos h]
theorem litOf_go (l : List UInt8) (h : ¬ (l.takeWhile isDigit = [] ∨ ((l.takeWhile isDigit).head? = some 48 ∧ 1 < (l.takeWhile isDigit).length) ∨ l.dropWhile isDigit = [])) :
    litOf l = (fracOf (l.dropWhile isDigit)).bind (litEnd (l.takeWhile isDigit)) := by
  unfold litOf; rw [if_neg h]
theorem litEnd_nil (wh F : List UInt8) : litEnd wh (F, []) = some (wh ++ F, 0 - (F.length : Int)) := rfl
theorem litEnd_no (wh F R : List UInt8) (h : R ≠ []) (h2 : R.head? ≠ some 101) : litEnd wh (F, R) = none := by
  unfold litEnd expOf; rw [if_neg h, if_pos h2]; rfl
theorem litEnd_e (wh F R : List UInt8) (h2 : R.head? = some 101) : litEnd wh (F, R) = (expEnd (signOf R.tail)).map fun x => (wh ++ F, x - (F.length : Int)) := by
  have h : R ≠ [] := by intro h; rw [h] at h2; cases h2
  unfold litEnd expOf; rw [if_neg h, if_neg (by simp [h2])]
theorem hasPrefix_oneFl (l : List UInt8) (c : UInt8) : Lib.hasPrefix l [c] = decide (l.head? = some c) := by
  unfold Lib.hasPrefix
  cases l with
  | nil => rfl
  | cons a t =>
    have h : List.isPrefixOf [c] (a :: t) = (c == a) := by simp [List.isPrefixOf]
    rw [h, Bool.eq_iff_iff, beq_iff_eq, decide_eq_true_eq]
    constructor
    · rintro rfl; rfl
    · intro h; exact (Option.some.inj h).symm
theorem expEnd_no (m : Bool) (l e t : List UInt8) (he : e = l.takeWhile isDigit) (ht : t = l.dropWhile isDigit) (h : e = [] ∨ t ≠ []) : expEnd (m, l) = none := by
  subst he ht; unfold expEnd; rw [if_pos h]
theorem expEnd_yes (m : Bool) (l e t : List UInt8) (he : e = l.takeWhile isDigit) (ht : t = l.dropWhile isDigit) (h : e ≠ []) (h2 : t = []) : expEnd (m, l) = some (if m then -(expVal e : Int) else (expVal e : Int)) := by
  subst he ht; unfold expEnd; rw [if_neg (by rintro (h3 | h3); exact h h3; exact h3 h2)]
theorem tw_len (l : List UInt8) : (l.takeWhile isDigit).length ≤ l.length ∧ (l.dropWhile isDigit).length ≤ l.length :=
  ⟨(List.takeWhile_sublist _).length_le, (List.dropWhile_sublist _).length_le⟩
theorem expVal_take (e : ByteArray) (k : Nat) (h : k < e.size) : expVal (e.data.toList.take (k + 1)) = min (expVal (e.data.toList.take k) * 10 + (e[k].toNat - 48)) 100000 := by
  rw [List.take_succ_eq_append_getElem (by rw [← Lib.size_eq]; exact h)]
  unfold expVal
  rw [List.foldl_append]; rfl
theorem expVal_le (l : List UInt8) : expVal l ≤ 100000 := by
  unfold expVal
  rw [expF l 0 0 rfl]; omega
theorem digit_at (e : ByteArray) (h : ∀ b ∈ e.data.toList, isDigit b = true) (k : Nat) (hk : k < e.size) : 48 ≤ e[k].toNat ∧ e[k].toNat ≤ 57 := by
  have h1 := h e[k] (by
    have : e[k] = e.data.toList[k]'(by rw [← Lib.size_eq]; exact hk) := rfl
    rw [this]; exact List.getElem_mem _)
  have := (digit_iff e[k]).1 h1
  omega
theorem tw_digits : ∀ (l : List UInt8), ∀ b ∈ l.takeWhile isDigit, isDigit b = true
  | [], b, hb => by simp at hb
  | a :: l, b, hb => by
    cases ha : isDigit a with
    | false => simp [ha] at hb
    | true =>
      rw [List.takeWhile_cons, if_pos ha] at hb
      rcases List.mem_cons.1 hb with rfl | hb
      · exact ha
      · exact tw_digits l b hb

set_option maxHeartbeats 8000000 in
theorem literal_any (s : ByteArray) (w : World) (hs : s.size ≤ 900) : Calls Tryz.prog 124 #[.string s] w (LitPost s.data.toList w) := by
  have HNO := Lib.hid (fun w' (h : litOf s.data.toList = none) (hb : Below w.heap.size w w') => (show LitPost s.data.toList w (.returned (.tuple #[.string ⟨#[]⟩, .int .i64 0, .bool false])) w' from .inl ⟨h, rfl, hb⟩))
  have HYES := Lib.hid (fun w' (d : ByteArray) (x : Int) (h : litOf s.data.toList = some (d.data.toList, x)) (hb : Below w.heap.size w w') => (show LitPost s.data.toList w (.returned (.tuple #[.string d, .int .i64 x, .bool true])) w' from .inr ⟨d, x, h, rfl, hb⟩))
  have HP := fun w0 (t : ByteArray) => Tryz.strings_HasPrefix t ⟨#[45]⟩ w0
  have HQ := fun w0 (t : ByteArray) => Tryz.strings_HasPrefix t ⟨#[43]⟩ w0
  have e45 : (⟨#[45]⟩ : ByteArray).data.toList = [45] := rfl
  have e43 : (⟨#[43]⟩ : ByteArray).data.toList = [43] := rfl
  simp only [e45, hasPrefix_oneFl] at HP
  simp only [e43, hasPrefix_oneFl] at HQ
  replace HP := Lib.hid HP
  replace HQ := Lib.hid HQ
  have HD := Lib.hid (fun (t : ByteArray) w0 (h : t.size ≤ 1000) => digits_any t w0 h)
  unfold DigitsPost at HD
  have hl := tw_len s.data.toList
  rw [← Lib.size_eq s] at hl
  have hgo := litOf_go s.data.toList
  have hno := litOf_no1 s.data.toList
  generalize LitPost s.data.toList w = POST at *
  generalize litOf s.data.toList = LIT at *
  have H1 := Lib.hid (HD.out s w (by omega))
  generalize List.takeWhile isDigit s.data.toList = tw at *
  generalize List.dropWhile isDigit s.data.toList = dw at *
  obtain ⟨l1, l2⟩ := hl
  have HGO := Lib.hid hgo
  have HN1 := Lib.hid hno
  clear hgo hno e45 e43
  go_enter Tryz.func124, Tryz.ntmps124
  go_wp2_with fail
  refine H1.out.mono ?_
  rintro e0 w1 ⟨a, b, rfl, rfl, rfl, hb1⟩
  rw [← Lib.size_eq] at l1 l2
  have B1 := Lib.hid hb1
  clear hb1 H1
  -- the three tests
  rcases Nat.eq_zero_or_pos a.size with za | pa
  · obtain rfl := bytes_nilFl za
    have N1 := HN1.out (.inl rfl)
    have N := Lib.hid N1
    clear N1 za
    go_wp2_with fail
    go_ret3
    exact HNO.out w1 N.out B1.out
  have ea := bytes_emFl pa
  obtain ⟨ea1, ea2⟩ := ea
  have hh := head_ofFl a pa
  by_cases h48 : a[0] = 48 ∧ 1 < a.size
  · have y0 := (byte_yFl a[0] 48 48 rfl h48.1).1
    have y1 : decide ((1 : Int) < (a.size : Int)) = true := decide_eq_true (by omega)
    have N1 := HN1.out (.inr (.inl ⟨by rw [hh, h48.1], by rw [← Lib.size_eq]; exact h48.2⟩))
    have N := Lib.hid N1
    clear N1 h48 hh
    go_wp2_with fail
    go_ret3
    exact HNO.out w1 N.out B1.out
  have tz : (((a[0].toNat : Int) == 48) = false) ∨ (((a[0].toNat : Int) == 48) = true ∧ decide ((1 : Int) < (a.size : Int)) = false) := by
    by_cases h : a[0] = 48
    · exact .inr ⟨(byte_yFl a[0] 48 48 rfl h).1, decide_eq_false (fun h2 => h48 ⟨h, by omega⟩)⟩
    · exact .inl (byte_nFl a[0] 48 48 rfl h).1
  rcases Nat.eq_zero_or_pos b.size with zb | pb
  · obtain rfl := bytes_nilFl zb
    have N1 := HN1.out (.inr (.inr rfl))
    have N := Lib.hid N1
    clear N1 zb h48 hh
    rcases tz with tz | ⟨tz, tz2⟩
    all_goals
      go_wp2_with fail
      go_ret3
      exact HNO.out w1 N.out B1.out
  have HB := Lib.hid (HGO.out (by
    rintro (h | ⟨h, h2⟩ | h)
    · exact list_neFl pa h
    · rw [hh] at h
      exact h48 ⟨by simpa using h, by rw [Lib.size_eq]; exact h2⟩
    · exact list_neFl pb h))
  obtain ⟨eb1, eb2⟩ := bytes_emFl pb
  have hbh := head_ofFl b pb
  have b0 : (0 : Int) < (b.size : Int) := by omega
  have b1 : (1 : Int) ≤ (b.size : Int) := by omega
  clear hh h48 HGO HN1
  -- a point, or none
  by_cases hdot : b[0] = 46
  · obtain ⟨d1, d2⟩ := byte_yFl b[0] 46 46 rfl hdot
    have HX := HD.out (b.extract 1 b.size) w1 (by simp; omega)
    have hex : (b.extract 1 b.size).data.toList = b.data.toList.tail := by rw [Lib.extract_to_end]; simp
    rw [hex] at HX
    have hl := tw_len b.data.toList.tail
    have hlt : b.data.toList.tail.length ≤ b.size := by rw [List.length_tail, ← Lib.size_eq]; omega
    have hfr : fracOf b.data.toList = if b.data.toList.tail.takeWhile isDigit = [] then none else some (b.data.toList.tail.takeWhile isDigit, b.data.toList.tail.dropWhile isDigit) := by
      unfold fracOf; rw [if_pos (by rw [hbh, hdot])]
    generalize b.data.toList.tail.takeWhile isDigit = tf at *
    generalize b.data.toList.tail.dropWhile isDigit = df at *
    have HF := Lib.hid hfr
    have H2 := Lib.hid HX
    obtain ⟨f1, f2⟩ := hl
    clear HX hex hfr hbh hdot
    rcases tz with tz | ⟨tz, tz2⟩
    all_goals
      go_wp2_with fail
      refine H2.out.mono ?_
      rintro e0 w2 ⟨f, r, rfl, rfl, rfl, hb2⟩
      rw [← Lib.size_eq] at f1 f2
      have B2 := Lib.hid (B1.out.trans (hb2.mono B1.out.size))
      rcases Nat.eq_zero_or_pos f.size with zf | pf
      · obtain rfl := bytes_nilFl zf
        have N := HB.out
        rw [HF.out, if_pos rfl] at N
        replace N := Lib.hid N
        clear hb2 zf
        go_wp2_with fail
        go_ret3
        exact HNO.out w2 N.out B2.out
      · have HL := HB.out
        rw [HF.out, if_neg (list_neFl pf)] at HL
        have HL2 := Lib.hid (show LIT = litEnd a.data.toList (f.data.toList, r.data.toList) from HL)
        obtain ⟨ef1, ef2⟩ := bytes_emFl pf
        have r900 : r.size ≤ 900 := by omega
        have f900 : f.size ≤ 900 := by omega
        clear hb2 HL pf HF HB
        rcases Nat.eq_zero_or_pos r.size with zr | pr
        · obtain rfl := bytes_nilFl zr
          have Y := HL2.out
          rw [show (⟨#[]⟩ : ByteArray).data.toList = [] from rfl, litEnd_nil] at Y
          replace Y := Lib.hid Y
          clear zr
          go_wp2_with fail
          go_ret3
          refine HYES.out w2 _ _ ?_ B2.out
          rw [Y.out]; simp
        obtain ⟨er1, er2⟩ := bytes_emFl pr
        have hrh := head_ofFl r pr
        rcases (Classical.em (r[0] = 101)).symm with he | he
        · obtain ⟨n1, n2⟩ := byte_nFl r[0] 101 101 rfl he
          have N := HL2.out
          rw [litEnd_no _ _ _ (list_neFl pr) (by rw [hrh]; exact fun h => he (by simpa using h))] at N
          replace N := Lib.hid N
          clear hrh he
          go_wp2_with fail
          go_ret3
          exact HNO.out w2 N.out B2.out
        obtain ⟨n1, n2⟩ := byte_yFl r[0] 101 101 rfl he
        have HS := HL2.out
        rw [litEnd_e _ _ _ (by rw [hrh, he])] at HS
        have hex : (r.extract 1 r.size).data.toList = r.data.toList.tail := by rw [Lib.extract_to_end]; simp
        rw [← hex] at HS
        have hsz : (r.extract 1 r.size).size = r.size - 1 := by simp
        have HMI := HP.out w2 (r.extract 1 r.size)
        have HPL := HQ.out w2 (r.extract 1 r.size)
        obtain ⟨g, hg⟩ : ∃ g, g = r.extract 1 r.size := ⟨_, rfl⟩
        rw [← hg] at HS HMI HPL hsz
        have r1 : (1 : Int) ≤ (r.size : Int) := by omega
        have g900 : g.size ≤ 900 := by omega
        have HG := Lib.hid hg
        clear hrh he hex hg hsz HL2
        -- the sign
        have hsig : (g.data.toList.head? = some 45 ∧ signOf g.data.toList = (true, g.data.toList.tail)) ∨ (g.data.toList.head? ≠ some 45 ∧ g.data.toList.head? = some 43 ∧ signOf g.data.toList = (false, g.data.toList.tail)) ∨
            (g.data.toList.head? ≠ some 45 ∧ g.data.toList.head? ≠ some 43 ∧ signOf g.data.toList = (false, g.data.toList)) := by
          unfold signOf
          by_cases h1 : g.data.toList.head? = some 45
          · exact .inl ⟨h1, by rw [if_pos h1]⟩
          · by_cases h2 : g.data.toList.head? = some 43
            · exact .inr (.inl ⟨h1, h2, by rw [if_neg h1, if_pos h2]⟩)
            · exact .inr (.inr ⟨h1, h2, by rw [if_neg h1, if_neg h2]⟩)
        have hgt : (g.extract 1 g.size).data.toList = g.data.toList.tail := by rw [Lib.extract_to_end]; simp
        rcases hsig with ⟨h1, h3⟩ | ⟨h1, h2, h3⟩ | ⟨h1, h2, h3⟩
        · rw [decide_eq_true h1] at HMI
          have gp : 0 < g.size := by
            rcases Nat.eq_zero_or_pos g.size with h | h
            · rw [list_nilFl h] at h1; cases h1
            · exact h
          have g1 : (1 : Int) ≤ (g.size : Int) := by omega
          rw [h3, ← hgt] at HS
          have hxs : (g.extract 1 g.size).size ≤ 1000 := by simp; omega
          have H3 := Lib.hid (fun w0 => HD.out (g.extract 1 g.size) w0 hxs)
          have HSS := Lib.hid HS
          have HM := Lib.hid HMI
          have HPP := Lib.hid HPL
          clear h1 h3 HS HMI HPL hgt hxs
          go_wp2_with fail
          rw [← HG.out]
          refine HM.out.mono ?_
          rintro e0 w3 ⟨rfl, rfl⟩
          go_wp2_with fail
          try rw [← HG.out]
          refine (H3.out w3).mono ?_
          rintro e0 w5 ⟨ex, t, rfl, he1, he2, hb5⟩
          have B5 := Lib.hid (B2.out.trans (hb5.mono B2.out.size))
          have hdg := tw_digits (g.extract 1 g.size).data.toList
          rw [← he1] at hdg
          have hex9 : ex.size ≤ 1000 := by
            have h := (tw_len (g.extract 1 g.size).data.toList).1
            rw [← he1, ← Lib.size_eq, ← Lib.size_eq] at h
            exact Nat.le_trans h (by first | (simp; omega) | omega)
          by_cases hbad : ex.size = 0 ∨ 0 < t.size
          · have N := HSS.out
            rw [expEnd_no true _ _ _ he1 he2 (by
              rcases hbad with h | h
              · exact .inl (list_nilFl h)
              · exact .inr (list_neFl h))] at N
            replace N := Lib.hid N
            clear hb5 he1 he2 hdg
            rcases Nat.eq_zero_or_pos ex.size with ze | pe
            · obtain rfl := bytes_nilFl ze
              clear ze hbad
              go_wp2_with fail
              go_ret3
              exact HNO.out w5 N.out B5.out
            · obtain ⟨k1, k2⟩ := bytes_emFl pe
              have pt : 0 < t.size := by omega
              obtain ⟨k3, k4⟩ := bytes_emFl pt
              clear hbad
              go_wp2_with fail
              go_ret3
              exact HNO.out w5 N.out B5.out
          have pe : 0 < ex.size := by omega
          have zt : t.size = 0 := by omega
          obtain rfl := bytes_nilFl zt
          obtain ⟨k1, k2⟩ := bytes_emFl pe
          have Y := HSS.out
          rw [expEnd_yes true _ _ _ he1 he2 (list_neFl pe) rfl] at Y
          replace Y := Lib.hid Y
          obtain ⟨cap, w6, hconv, -, hsz6, hgr, hC⟩ := Gx.conv_bytes_run (P := Tryz.prog) w5 9 72 5 ex Tryz.underlying9 Tryz.underlying72 Tryz.underlying5
          have B6 := Lib.hid (B5.out.trans ((Gx.grown_below hgr (Nat.le_refl _) (by simp)).mono B5.out.size))
          have HC := Lib.hid hC
          have HDG := Lib.hid (digit_at ex hdg)
          have HEV := Lib.hid (expVal_take ex)
          clear hb5 he1 he2 hdg hbad zt hgr hC hsz6
          go_wp2_with fail
          clear hconv
          go_loop [3, 79, 10] (fun xv iv cv => ∃ k : Nat, k ≤ ex.size ∧ iv = .int .i64 k ∧ xv = .int .i64 (expVal (ex.data.toList.take k))) (fun _ iv _ => ex.size - (intOf iv).toNat)
          case atStart => exact ⟨0, Nat.zero_le _, rfl, rfl⟩
          case round =>
            obtain ⟨k, hk, rfl, rfl⟩ := hrel
            obtain ⟨k0, k1'⟩ : 0 ≤ (k : Int) ∧ (k : Int) ≤ (ex.size : Int) := by omega
            have hle := expVal_le (ex.data.toList.take k)
            by_cases hlt : k < ex.size
            · have c0 := HC.out k hlt
              have hdk := HDG.out k hlt
              have hev := HEV.out k hlt
              have e1 : ex.data[k] = ex[k] := rfl
              rw [e1] at c0
              obtain ⟨x, hx⟩ : ∃ x : Nat, x = ex[k].toNat := ⟨_, rfl⟩
              rw [← hx] at c0 hdk hev
              obtain ⟨v, hv⟩ : ∃ v : Nat, v = expVal (ex.data.toList.take k) := ⟨_, rfl⟩
              rw [← hv] at hev hle ⊢
              obtain ⟨x1, x2⟩ : 48 ≤ (x : Int) ∧ (x : Int) ≤ 57 := by omega
              have HEV2 := Lib.hid hev
              clear e1 hx hv hev hdk
              go_wp2_with fail
              go_round
              case rel => exact ⟨k + 1, by omega, by go_num, by rw [HEV2.out]; congr 1; omega⟩
              case measure => simp [intOf]; omega
            · obtain rfl : k = ex.size := by omega
              have hfull : ex.data.toList.take ex.size = ex.data.toList := List.take_of_length_le (by rw [← Lib.size_eq]; exact Nat.le_refl _)
              rw [hfull] at hle ⊢
              clear hfull
              obtain ⟨v, hv⟩ : ∃ v : Nat, v = expVal ex.data.toList := ⟨_, rfl⟩
              rw [← hv] at hle ⊢
              have HV := Lib.hid hv
              clear hv
              go_wp2_with fail
              go_ret3
              exact HYES.out w6 _ _ (by rw [Y.out, ← HV.out]; simp) B6.out
        · rw [decide_eq_false h1] at HMI
          rw [decide_eq_true h2] at HPL
          have gp : 0 < g.size := by
            rcases Nat.eq_zero_or_pos g.size with h | h
            · rw [list_nilFl h] at h2; cases h2
            · exact h
          have g1 : (1 : Int) ≤ (g.size : Int) := by omega
          rw [h3, ← hgt] at HS
          have hxs : (g.extract 1 g.size).size ≤ 1000 := by simp; omega
          have H3 := Lib.hid (fun w0 => HD.out (g.extract 1 g.size) w0 hxs)
          have HSS := Lib.hid HS
          have HM := Lib.hid HMI
          have HPP := Lib.hid HPL
          clear h1 h2 h3 HS HMI HPL hgt hxs
          go_wp2_with fail
          rw [← HG.out]
          refine HM.out.mono ?_
          rintro e0 w3 ⟨rfl, rfl⟩
          go_wp2_with fail
          try rw [← HG.out]
          refine HPP.out.mono ?_
          rintro e0 w4 ⟨rfl, rfl⟩
          obtain ⟨w3, rfl⟩ : ∃ w3 : World, w3 = w4 := ⟨_, rfl⟩
          go_wp2_with fail
          try rw [← HG.out]
          refine (H3.out w3).mono ?_
          rintro e0 w5 ⟨ex, t, rfl, he1, he2, hb5⟩
          have B5 := Lib.hid (B2.out.trans (hb5.mono B2.out.size))
          have hdg := tw_digits (g.extract 1 g.size).data.toList
          rw [← he1] at hdg
          have hex9 : ex.size ≤ 1000 := by
            have h := (tw_len (g.extract 1 g.size).data.toList).1
            rw [← he1, ← Lib.size_eq, ← Lib.size_eq] at h
            exact Nat.le_trans h (by first | (simp; omega) | omega)
          by_cases hbad : ex.size = 0 ∨ 0 < t.size
          · have N := HSS.out
            rw [expEnd_no false _ _ _ he1 he2 (by
              rcases hbad with h | h
              · exact .inl (list_nilFl h)
              · exact .inr (list_neFl h))] at N
            replace N := Lib.hid N
            clear hb5 he1 he2 hdg
            rcases Nat.eq_zero_or_pos ex.size with ze | pe
            · obtain rfl := bytes_nilFl ze
              clear ze hbad
              go_wp2_with fail
              go_ret3
              exact HNO.out w5 N.out B5.out
            · obtain ⟨k1, k2⟩ := bytes_emFl pe
              have pt : 0 < t.size := by omega
              obtain ⟨k3, k4⟩ := bytes_emFl pt
              clear hbad
              go_wp2_with fail
              go_ret3
              exact HNO.out w5 N.out B5.out
          have pe : 0 < ex.size := by omega
          have zt : t.size = 0 := by omega
          obtain rfl := bytes_nilFl zt
          obtain ⟨k1, k2⟩ := bytes_emFl pe
          have Y := HSS.out
          rw [expEnd_yes false _ _ _ he1 he2 (list_neFl pe) rfl] at Y
          replace Y := Lib.hid Y
          obtain ⟨cap, w6, hconv, -, hsz6, hgr, hC⟩ := Gx.conv_bytes_run (P := Tryz.prog) w5 9 72 5 ex Tryz.underlying9 Tryz.underlying72 Tryz.underlying5
          have B6 := Lib.hid (B5.out.trans ((Gx.grown_below hgr (Nat.le_refl _) (by simp)).mono B5.out.size))
          have HC := Lib.hid hC
          have HDG := Lib.hid (digit_at ex hdg)
          have HEV := Lib.hid (expVal_take ex)
          clear hb5 he1 he2 hdg hbad zt hgr hC hsz6
          go_wp2_with fail
          clear hconv
          go_loop [3, 79, 10] (fun xv iv cv => ∃ k : Nat, k ≤ ex.size ∧ iv = .int .i64 k ∧ xv = .int .i64 (expVal (ex.data.toList.take k))) (fun _ iv _ => ex.size - (intOf iv).toNat)
          case atStart => exact ⟨0, Nat.zero_le _, rfl, rfl⟩
          case round =>
            obtain ⟨k, hk, rfl, rfl⟩ := hrel
            obtain ⟨k0, k1'⟩ : 0 ≤ (k : Int) ∧ (k : Int) ≤ (ex.size : Int) := by omega
            have hle := expVal_le (ex.data.toList.take k)
            by_cases hlt : k < ex.size
            · have c0 := HC.out k hlt
              have hdk := HDG.out k hlt
              have hev := HEV.out k hlt
              have e1 : ex.data[k] = ex[k] := rfl
              rw [e1] at c0
              obtain ⟨x, hx⟩ : ∃ x : Nat, x = ex[k].toNat := ⟨_, rfl⟩
              rw [← hx] at c0 hdk hev
              obtain ⟨v, hv⟩ : ∃ v : Nat, v = expVal (ex.data.toList.take k) := ⟨_, rfl⟩
              rw [← hv] at hev hle ⊢
              obtain ⟨x1, x2⟩ : 48 ≤ (x : Int) ∧ (x : Int) ≤ 57 := by omega
              have HEV2 := Lib.hid hev
              clear e1 hx hv hev hdk
              go_wp2_with fail
              go_round
              case rel => exact ⟨k + 1, by omega, by go_num, by rw [HEV2.out]; congr 1; omega⟩
              case measure => simp [intOf]; omega
            · obtain rfl : k = ex.size := by omega
              have hfull : ex.data.toList.take ex.size = ex.data.toList := List.take_of_length_le (by rw [← Lib.size_eq]; exact Nat.le_refl _)
              rw [hfull] at hle ⊢
              clear hfull
              obtain ⟨v, hv⟩ : ∃ v : Nat, v = expVal ex.data.toList := ⟨_, rfl⟩
              rw [← hv] at hle ⊢
              have HV := Lib.hid hv
              clear hv
              go_wp2_with fail
              go_ret3
              exact HYES.out w6 _ _ (by rw [Y.out, ← HV.out]; simp) B6.out
        · rw [decide_eq_false h1] at HMI
          rw [decide_eq_false h2] at HPL
          rw [h3] at HS
          have hxs : g.size ≤ 1000 := by omega
          have H3 := Lib.hid (fun w0 => HD.out (g) w0 hxs)
          have HSS := Lib.hid HS
          have HM := Lib.hid HMI
          have HPP := Lib.hid HPL
          clear h1 h2 h3 HS HMI HPL hgt hxs
          go_wp2_with fail
          rw [← HG.out]
          refine HM.out.mono ?_
          rintro e0 w3 ⟨rfl, rfl⟩
          go_wp2_with fail
          try rw [← HG.out]
          refine HPP.out.mono ?_
          rintro e0 w4 ⟨rfl, rfl⟩
          obtain ⟨w3, rfl⟩ : ∃ w3 : World, w3 = w4 := ⟨_, rfl⟩
          go_wp2_with fail
          try rw [← HG.out]
          refine (H3.out w3).mono ?_
          rintro e0 w5 ⟨ex, t, rfl, he1, he2, hb5⟩
          have B5 := Lib.hid (B2.out.trans (hb5.mono B2.out.size))
          have hdg := tw_digits (g).data.toList
          rw [← he1] at hdg
          have hex9 : ex.size ≤ 1000 := by
            have h := (tw_len (g).data.toList).1
            rw [← he1, ← Lib.size_eq, ← Lib.size_eq] at h
            exact Nat.le_trans h (by first | (simp; omega) | omega)
          by_cases hbad : ex.size = 0 ∨ 0 < t.size
          · have N := HSS.out
            rw [expEnd_no false _ _ _ he1 he2 (by
              rcases hbad with h | h
              · exact .inl (list_nilFl h)
              · exact .inr (list_neFl h))] at N
            replace N := Lib.hid N
            clear hb5 he1 he2 hdg
            rcases Nat.eq_zero_or_pos ex.size with ze | pe
            · obtain rfl := bytes_nilFl ze
              clear ze hbad
              go_wp2_with fail
              go_ret3
              exact HNO.out w5 N.out B5.out
            · obtain ⟨k1, k2⟩ := bytes_emFl pe
              have pt : 0 < t.size := by omega
              obtain ⟨k3, k4⟩ := bytes_emFl pt
              clear hbad
              go_wp2_with fail
              go_ret3
              exact HNO.out w5 N.out B5.out
          have pe : 0 < ex.size := by omega
          have zt : t.size = 0 := by omega
          obtain rfl := bytes_nilFl zt
          obtain ⟨k1, k2⟩ := bytes_emFl pe
          have Y := HSS.out
          rw [expEnd_yes false _ _ _ he1 he2 (list_neFl pe) rfl] at Y
          replace Y := Lib.hid Y
          obtain ⟨cap, w6, hconv, -, hsz6, hgr, hC⟩ := Gx.conv_bytes_run (P := Tryz.prog) w5 9 72 5 ex Tryz.underlying9 Tryz.underlying72 Tryz.underlying5
          have B6 := Lib.hid (B5.out.trans ((Gx.grown_below hgr (Nat.le_refl _) (by simp)).mono B5.out.size))
          have HC := Lib.hid hC
          have HDG := Lib.hid (digit_at ex hdg)
          have HEV := Lib.hid (expVal_take ex)
          clear hb5 he1 he2 hdg hbad zt hgr hC hsz6
          go_wp2_with fail
          clear hconv
          go_loop [3, 79, 10] (fun xv iv cv => ∃ k : Nat, k ≤ ex.size ∧ iv = .int .i64 k ∧ xv = .int .i64 (expVal (ex.data.toList.take k))) (fun _ iv _ => ex.size - (intOf iv).toNat)
          case atStart => exact ⟨0, Nat.zero_le _, rfl, rfl⟩
          case round =>
            obtain ⟨k, hk, rfl, rfl⟩ := hrel
            obtain ⟨k0, k1'⟩ : 0 ≤ (k : Int) ∧ (k : Int) ≤ (ex.size : Int) := by omega
            have hle := expVal_le (ex.data.toList.take k)
            by_cases hlt : k < ex.size
            · have c0 := HC.out k hlt
              have hdk := HDG.out k hlt
              have hev := HEV.out k hlt
              have e1 : ex.data[k] = ex[k] := rfl
              rw [e1] at c0
              obtain ⟨x, hx⟩ : ∃ x : Nat, x = ex[k].toNat := ⟨_, rfl⟩
              rw [← hx] at c0 hdk hev
              obtain ⟨v, hv⟩ : ∃ v : Nat, v = expVal (ex.data.toList.take k) := ⟨_, rfl⟩
              rw [← hv] at hev hle ⊢
              obtain ⟨x1, x2⟩ : 48 ≤ (x : Int) ∧ (x : Int) ≤ 57 := by omega
              have HEV2 := Lib.hid hev
              clear e1 hx hv hev hdk
              go_wp2_with fail
              go_round
              case rel => exact ⟨k + 1, by omega, by go_num, by rw [HEV2.out]; congr 1; omega⟩
              case measure => simp [intOf]; omega
            · obtain rfl : k = ex.size := by omega
              have hfull : ex.data.toList.take ex.size = ex.data.toList := List.take_of_length_le (by rw [← Lib.size_eq]; exact Nat.le_refl _)
              rw [hfull] at hle ⊢
              clear hfull
              obtain ⟨v, hv⟩ : ∃ v : Nat, v = expVal ex.data.toList := ⟨_, rfl⟩
              rw [← hv] at hle ⊢
              have HV := Lib.hid hv
              clear hv
              go_wp2_with fail
              go_ret3
              exact HYES.out w6 _ _ (by rw [Y.out, ← HV.out]; simp) B6.out
  · obtain ⟨d1, d2⟩ := byte_nFl b[0] 46 46 rfl hdot
    have hfr : fracOf b.data.toList = some ([], b.data.toList) := by
      unfold fracOf; rw [if_neg]; rw [hbh]; exact fun h => hdot (by simpa using h)
    have HL := HB.out
    rw [hfr] at HL
    have HL2 := Lib.hid (show LIT = litEnd a.data.toList ([], b.data.toList) from HL)
    obtain ⟨r, rfl⟩ : ∃ r, r = b := ⟨_, rfl⟩
    obtain ⟨w2, rfl⟩ : ∃ w2 : World, w2 = w1 := ⟨_, rfl⟩
    have B2 := B1
    have r900 : r.size ≤ 900 := by omega
    clear HL hfr hbh hdot HB
    rcases tz with tz | ⟨tz, tz2⟩
    all_goals
      have pr := pb
      obtain ⟨er1, er2⟩ := bytes_emFl pr
      have hrh := head_ofFl r pr
      rcases (Classical.em (r[0] = 101)).symm with he | he
      · obtain ⟨n1, n2⟩ := byte_nFl r[0] 101 101 rfl he
        have N := HL2.out
        rw [litEnd_no _ _ _ (list_neFl pr) (by rw [hrh]; exact fun h => he (by simpa using h))] at N
        replace N := Lib.hid N
        clear hrh he
        go_wp2_with fail
        go_ret3
        exact HNO.out w2 N.out B2.out
      obtain ⟨n1, n2⟩ := byte_yFl r[0] 101 101 rfl he
      have HS := HL2.out
      rw [litEnd_e _ _ _ (by rw [hrh, he])] at HS
      have hex : (r.extract 1 r.size).data.toList = r.data.toList.tail := by rw [Lib.extract_to_end]; simp
      rw [← hex] at HS
      have hsz : (r.extract 1 r.size).size = r.size - 1 := by simp
      have HMI := HP.out w2 (r.extract 1 r.size)
      have HPL := HQ.out w2 (r.extract 1 r.size)
      obtain ⟨g, hg⟩ : ∃ g, g = r.extract 1 r.size := ⟨_, rfl⟩
      rw [← hg] at HS HMI HPL hsz
      have r1 : (1 : Int) ≤ (r.size : Int) := by omega
      have g900 : g.size ≤ 900 := by omega
      have HG := Lib.hid hg
      clear hrh he hex hg hsz HL2
      -- the sign
      have hsig : (g.data.toList.head? = some 45 ∧ signOf g.data.toList = (true, g.data.toList.tail)) ∨ (g.data.toList.head? ≠ some 45 ∧ g.data.toList.head? = some 43 ∧ signOf g.data.toList = (false, g.data.toList.tail)) ∨
          (g.data.toList.head? ≠ some 45 ∧ g.data.toList.head? ≠ some 43 ∧ signOf g.data.toList = (false, g.data.toList)) := by
        unfold signOf
        by_cases h1 : g.data.toList.head? = some 45
        · exact .inl ⟨h1, by rw [if_pos h1]⟩
        · by_cases h2 : g.data.toList.head? = some 43
          · exact .inr (.inl ⟨h1, h2, by rw [if_neg h1, if_pos h2]⟩)
          · exact .inr (.inr ⟨h1, h2, by rw [if_neg h1, if_neg h2]⟩)
      have hgt : (g.extract 1 g.size).data.toList = g.data.toList.tail := by rw [Lib.extract_to_end]; simp
      rcases hsig with ⟨h1, h3⟩ | ⟨h1, h2, h3⟩ | ⟨h1, h2, h3⟩
      · rw [decide_eq_true h1] at HMI
        have gp : 0 < g.size := by
          rcases Nat.eq_zero_or_pos g.size with h | h
          · rw [list_nilFl h] at h1; cases h1
          · exact h
        have g1 : (1 : Int) ≤ (g.size : Int) := by omega
        rw [h3, ← hgt] at HS
        have hxs : (g.extract 1 g.size).size ≤ 1000 := by simp; omega
        have H3 := Lib.hid (fun w0 => HD.out (g.extract 1 g.size) w0 hxs)
        have HSS := Lib.hid HS
        have HM := Lib.hid HMI
        have HPP := Lib.hid HPL
        clear h1 h3 HS HMI HPL hgt hxs
        go_wp2_with fail
        rw [← HG.out]
        refine HM.out.mono ?_
        rintro e0 w3 ⟨rfl, rfl⟩
        go_wp2_with fail
        try rw [← HG.out]
        refine (H3.out w3).mono ?_
        rintro e0 w5 ⟨ex, t, rfl, he1, he2, hb5⟩
        have B5 := Lib.hid (B2.out.trans (hb5.mono B2.out.size))
        have hdg := tw_digits (g.extract 1 g.size).data.toList
        rw [← he1] at hdg
        have hex9 : ex.size ≤ 1000 := by
          have h := (tw_len (g.extract 1 g.size).data.toList).1
          rw [← he1, ← Lib.size_eq, ← Lib.size_eq] at h
          exact Nat.le_trans h (by first | (simp; omega) | omega)
        by_cases hbad : ex.size = 0 ∨ 0 < t.size
        · have N := HSS.out
          rw [expEnd_no true _ _ _ he1 he2 (by
            rcases hbad with h | h
            · exact .inl (list_nilFl h)
            · exact .inr (list_neFl h))] at N
          replace N := Lib.hid N
          clear hb5 he1 he2 hdg
          rcases Nat.eq_zero_or_pos ex.size with ze | pe
          · obtain rfl := bytes_nilFl ze
            clear ze hbad
            go_wp2_with fail
            go_ret3
            exact HNO.out w5 N.out B5.out
          · obtain ⟨k1, k2⟩ := bytes_emFl pe
            have pt : 0 < t.size := by omega
            obtain ⟨k3, k4⟩ := bytes_emFl pt
            clear hbad
            go_wp2_with fail
            go_ret3
            exact HNO.out w5 N.out B5.out
        have pe : 0 < ex.size := by omega
        have zt : t.size = 0 := by omega
        obtain rfl := bytes_nilFl zt
        obtain ⟨k1, k2⟩ := bytes_emFl pe
        have Y := HSS.out
        rw [expEnd_yes true _ _ _ he1 he2 (list_neFl pe) rfl] at Y
        replace Y := Lib.hid Y
        obtain ⟨cap, w6, hconv, -, hsz6, hgr, hC⟩ := Gx.conv_bytes_run (P := Tryz.prog) w5 9 72 5 ex Tryz.underlying9 Tryz.underlying72 Tryz.underlying5
        have B6 := Lib.hid (B5.out.trans ((Gx.grown_below hgr (Nat.le_refl _) (by simp)).mono B5.out.size))
        have HC := Lib.hid hC
        have HDG := Lib.hid (digit_at ex hdg)
        have HEV := Lib.hid (expVal_take ex)
        clear hb5 he1 he2 hdg hbad zt hgr hC hsz6
        go_wp2_with fail
        clear hconv
        go_loop [3, 79, 10] (fun xv iv cv => ∃ k : Nat, k ≤ ex.size ∧ iv = .int .i64 k ∧ xv = .int .i64 (expVal (ex.data.toList.take k))) (fun _ iv _ => ex.size - (intOf iv).toNat)
        case atStart => exact ⟨0, Nat.zero_le _, rfl, rfl⟩
        case round =>
          obtain ⟨k, hk, rfl, rfl⟩ := hrel
          obtain ⟨k0, k1'⟩ : 0 ≤ (k : Int) ∧ (k : Int) ≤ (ex.size : Int) := by omega
          have hle := expVal_le (ex.data.toList.take k)
          by_cases hlt : k < ex.size
          · have c0 := HC.out k hlt
            have hdk := HDG.out k hlt
            have hev := HEV.out k hlt
            have e1 : ex.data[k] = ex[k] := rfl
            rw [e1] at c0
            obtain ⟨x, hx⟩ : ∃ x : Nat, x = ex[k].toNat := ⟨_, rfl⟩
            rw [← hx] at c0 hdk hev
            obtain ⟨v, hv⟩ : ∃ v : Nat, v = expVal (ex.data.toList.take k) := ⟨_, rfl⟩
            rw [← hv] at hev hle ⊢
            obtain ⟨x1, x2⟩ : 48 ≤ (x : Int) ∧ (x : Int) ≤ 57 := by omega
            have HEV2 := Lib.hid hev
            clear e1 hx hv hev hdk
            go_wp2_with fail
            go_round
            case rel => exact ⟨k + 1, by omega, by go_num, by rw [HEV2.out]; congr 1; omega⟩
            case measure => simp [intOf]; omega
          · obtain rfl : k = ex.size := by omega
            have hfull : ex.data.toList.take ex.size = ex.data.toList := List.take_of_length_le (by rw [← Lib.size_eq]; exact Nat.le_refl _)
            rw [hfull] at hle ⊢
            clear hfull
            obtain ⟨v, hv⟩ : ∃ v : Nat, v = expVal ex.data.toList := ⟨_, rfl⟩
            rw [← hv] at hle ⊢
            have HV := Lib.hid hv
            clear hv
            go_wp2_with fail
            go_ret3
            exact HYES.out w6 _ _ (by rw [Y.out, ← HV.out]; simp) B6.out
      · rw [decide_eq_false h1] at HMI
        rw [decide_eq_true h2] at HPL
        have gp : 0 < g.size := by
          rcases Nat.eq_zero_or_pos g.size with h | h
          · rw [list_nilFl h] at h2; cases h2
          · exact h
        have g1 : (1 : Int) ≤ (g.size : Int) := by omega
        rw [h3, ← hgt] at HS
        have hxs : (g.extract 1 g.size).size ≤ 1000 := by simp; omega
        have H3 := Lib.hid (fun w0 => HD.out (g.extract 1 g.size) w0 hxs)
        have HSS := Lib.hid HS
        have HM := Lib.hid HMI
        have HPP := Lib.hid HPL
        clear h1 h2 h3 HS HMI HPL hgt hxs
        go_wp2_with fail
        rw [← HG.out]
        refine HM.out.mono ?_
        rintro e0 w3 ⟨rfl, rfl⟩
        go_wp2_with fail
        try rw [← HG.out]
        refine HPP.out.mono ?_
        rintro e0 w4 ⟨rfl, rfl⟩
        obtain ⟨w3, rfl⟩ : ∃ w3 : World, w3 = w4 := ⟨_, rfl⟩
        go_wp2_with fail
        try rw [← HG.out]
        refine (H3.out w3).mono ?_
        rintro e0 w5 ⟨ex, t, rfl, he1, he2, hb5⟩
        have B5 := Lib.hid (B2.out.trans (hb5.mono B2.out.size))
        have hdg := tw_digits (g.extract 1 g.size).data.toList
        rw [← he1] at hdg
        have hex9 : ex.size ≤ 1000 := by
          have h := (tw_len (g.extract 1 g.size).data.toList).1
          rw [← he1, ← Lib.size_eq, ← Lib.size_eq] at h
          exact Nat.le_trans h (by first | (simp; omega) | omega)
        by_cases hbad : ex.size = 0 ∨ 0 < t.size
        · have N := HSS.out
          rw [expEnd_no false _ _ _ he1 he2 (by
            rcases hbad with h | h
            · exact .inl (list_nilFl h)
            · exact .inr (list_neFl h))] at N
          replace N := Lib.hid N
          clear hb5 he1 he2 hdg
          rcases Nat.eq_zero_or_pos ex.size with ze | pe
          · obtain rfl := bytes_nilFl ze
            clear ze hbad
            go_wp2_with fail
            go_ret3
            exact HNO.out w5 N.out B5.out
          · obtain ⟨k1, k2⟩ := bytes_emFl pe
            have pt : 0 < t.size := by omega
            obtain ⟨k3, k4⟩ := bytes_emFl pt
            clear hbad
            go_wp2_with fail
            go_ret3
            exact HNO.out w5 N.out B5.out
        have pe : 0 < ex.size := by omega
        have zt : t.size = 0 := by omega
        obtain rfl := bytes_nilFl zt
        obtain ⟨k1, k2⟩ := bytes_emFl pe
        have Y := HSS.out
        rw [expEnd_yes false _ _ _ he1 he2 (list_neFl pe) rfl] at Y
        replace Y := Lib.hid Y
        obtain ⟨cap, w6, hconv, -, hsz6, hgr, hC⟩ := Gx.conv_bytes_run (P := Tryz.prog) w5 9 72 5 ex Tryz.underlying9 Tryz.underlying72 Tryz.underlying5
        have B6 := Lib.hid (B5.out.trans ((Gx.grown_below hgr (Nat.le_refl _) (by simp)).mono B5.out.size))
        have HC := Lib.hid hC
        have HDG := Lib.hid (digit_at ex hdg)
        have HEV := Lib.hid (expVal_take ex)
        clear hb5 he1 he2 hdg hbad zt hgr hC hsz6
        go_wp2_with fail
        clear hconv
        go_loop [3, 79, 10] (fun xv iv cv => ∃ k : Nat, k ≤ ex.size ∧ iv = .int .i64 k ∧ xv = .int .i64 (expVal (ex.data.toList.take k))) (fun _ iv _ => ex.size - (intOf iv).toNat)
        case atStart => exact ⟨0, Nat.zero_le _, rfl, rfl⟩
        case round =>
          obtain ⟨k, hk, rfl, rfl⟩ := hrel
          obtain ⟨k0, k1'⟩ : 0 ≤ (k : Int) ∧ (k : Int) ≤ (ex.size : Int) := by omega
          have hle := expVal_le (ex.data.toList.take k)
          by_cases hlt : k < ex.size
          · have c0 := HC.out k hlt
            have hdk := HDG.out k hlt
            have hev := HEV.out k hlt
            have e1 : ex.data[k] = ex[k] := rfl
            rw [e1] at c0
            obtain ⟨x, hx⟩ : ∃ x : Nat, x = ex[k].toNat := ⟨_, rfl⟩
            rw [← hx] at c0 hdk hev
            obtain ⟨v, hv⟩ : ∃ v : Nat, v = expVal (ex.data.toList.take k) := ⟨_, rfl⟩
            rw [← hv] at hev hle ⊢
            obtain ⟨x1, x2⟩ : 48 ≤ (x : Int) ∧ (x : Int) ≤ 57 := by omega
            have HEV2 := Lib.hid hev
            clear e1 hx hv hev hdk
            go_wp2_with fail
            go_round
            case rel => exact ⟨k + 1, by omega, by go_num, by rw [HEV2.out]; congr 1; omega⟩
            case measure => simp [intOf]; omega
          · obtain rfl : k = ex.size := by omega
            have hfull : ex.data.toList.take ex.size = ex.data.toList := List.take_of_length_le (by rw [← Lib.size_eq]; exact Nat.le_refl _)
            rw [hfull] at hle ⊢
            clear hfull
            obtain ⟨v, hv⟩ : ∃ v : Nat, v = expVal ex.data.toList := ⟨_, rfl⟩
            rw [← hv] at hle ⊢
            have HV := Lib.hid hv
            clear hv
            go_wp2_with fail
            go_ret3
            exact HYES.out w6 _ _ (by rw [Y.out, ← HV.out]; simp) B6.out
      · rw [decide_eq_false h1] at HMI
        rw [decide_eq_false h2] at HPL
        rw [h3] at HS
        have hxs : g.size ≤ 1000 := by omega
        have H3 := Lib.hid (fun w0 => HD.out (g) w0 hxs)
        have HSS := Lib.hid HS
        have HM := Lib.hid HMI
        have HPP := Lib.hid HPL
        clear h1 h2 h3 HS HMI HPL hgt hxs
        go_wp2_with fail
        rw [← HG.out]
        refine HM.out.mono ?_
        rintro e0 w3 ⟨rfl, rfl⟩
        go_wp2_with fail
        try rw [← HG.out]
        refine HPP.out.mono ?_
        rintro e0 w4 ⟨rfl, rfl⟩
        obtain ⟨w3, rfl⟩ : ∃ w3 : World, w3 = w4 := ⟨_, rfl⟩
        go_wp2_with fail
        try rw [← HG.out]
        refine (H3.out w3).mono ?_
        rintro e0 w5 ⟨ex, t, rfl, he1, he2, hb5⟩
        have B5 := Lib.hid (B2.out.trans (hb5.mono B2.out.size))
        have hdg := tw_digits (g).data.toList
        rw [← he1] at hdg
        have hex9 : ex.size ≤ 1000 := by
          have h := (tw_len (g).data.toList).1
          rw [← he1, ← Lib.size_eq, ← Lib.size_eq] at h
          exact Nat.le_trans h (by first | (simp; omega) | omega)
        by_cases hbad : ex.size = 0 ∨ 0 < t.size
        · have N := HSS.out
          rw [expEnd_no false _ _ _ he1 he2 (by
            rcases hbad with h | h
            · exact .inl (list_nilFl h)
            · exact .inr (list_neFl h))] at N
          replace N := Lib.hid N
          clear hb5 he1 he2 hdg
          rcases Nat.eq_zero_or_pos ex.size with ze | pe
          · obtain rfl := bytes_nilFl ze
            clear ze hbad
            go_wp2_with fail
            go_ret3
            exact HNO.out w5 N.out B5.out
          · obtain ⟨k1, k2⟩ := bytes_emFl pe
            have pt : 0 < t.size := by omega
            obtain ⟨k3, k4⟩ := bytes_emFl pt
            clear hbad
            go_wp2_with fail
            go_ret3
            exact HNO.out w5 N.out B5.out
        have pe : 0 < ex.size := by omega
        have zt : t.size = 0 := by omega
        obtain rfl := bytes_nilFl zt
        obtain ⟨k1, k2⟩ := bytes_emFl pe
        have Y := HSS.out
        rw [expEnd_yes false _ _ _ he1 he2 (list_neFl pe) rfl] at Y
        replace Y := Lib.hid Y
        obtain ⟨cap, w6, hconv, -, hsz6, hgr, hC⟩ := Gx.conv_bytes_run (P := Tryz.prog) w5 9 72 5 ex Tryz.underlying9 Tryz.underlying72 Tryz.underlying5
        have B6 := Lib.hid (B5.out.trans ((Gx.grown_below hgr (Nat.le_refl _) (by simp)).mono B5.out.size))
        have HC := Lib.hid hC
        have HDG := Lib.hid (digit_at ex hdg)
        have HEV := Lib.hid (expVal_take ex)
        clear hb5 he1 he2 hdg hbad zt hgr hC hsz6
        go_wp2_with fail
        clear hconv
        go_loop [3, 79, 10] (fun xv iv cv => ∃ k : Nat, k ≤ ex.size ∧ iv = .int .i64 k ∧ xv = .int .i64 (expVal (ex.data.toList.take k))) (fun _ iv _ => ex.size - (intOf iv).toNat)
        case atStart => exact ⟨0, Nat.zero_le _, rfl, rfl⟩
        case round =>
          obtain ⟨k, hk, rfl, rfl⟩ := hrel
          obtain ⟨k0, k1'⟩ : 0 ≤ (k : Int) ∧ (k : Int) ≤ (ex.size : Int) := by omega
          have hle := expVal_le (ex.data.toList.take k)
          by_cases hlt : k < ex.size
          · have c0 := HC.out k hlt
            have hdk := HDG.out k hlt
            have hev := HEV.out k hlt
            have e1 : ex.data[k] = ex[k] := rfl
            rw [e1] at c0
            obtain ⟨x, hx⟩ : ∃ x : Nat, x = ex[k].toNat := ⟨_, rfl⟩
            rw [← hx] at c0 hdk hev
            obtain ⟨v, hv⟩ : ∃ v : Nat, v = expVal (ex.data.toList.take k) := ⟨_, rfl⟩
            rw [← hv] at hev hle ⊢
            obtain ⟨x1, x2⟩ : 48 ≤ (x : Int) ∧ (x : Int) ≤ 57 := by omega
            have HEV2 := Lib.hid hev
            clear e1 hx hv hev hdk
            go_wp2_with fail
            go_round
            case rel => exact ⟨k + 1, by omega, by go_num, by rw [HEV2.out]; congr 1; omega⟩
            case measure => simp [intOf]; omega
          · obtain rfl : k = ex.size := by omega
            have hfull : ex.data.toList.take ex.size = ex.data.toList := List.take_of_length_le (by rw [← Lib.size_eq]; exact Nat.le_refl _)
            rw [hfull] at hle ⊢
            clear hfull
            obtain ⟨v, hv⟩ : ∃ v : Nat, v = expVal ex.data.toList := ⟨_, rfl⟩
            rw [← hv] at hle ⊢
            have HV := Lib.hid hv
            clear hv
            go_wp2_with fail
            go_ret3
            exact HYES.out w6 _ _ (by rw [Y.out, ← HV.out]; simp) B6.out
end Go.Proofs.YtldhmfkojaekfaaGreatDoor
namespace Go.Proofs.YtldhmfkojaekfaaGreatDoor
open Go.RowKit Gx
set_option maxRecDepth 100000
def FTab (w : World) : Prop := Lib.TabIs Tryz.prog w "internal/strconv.uint64pow10" .u64 Lib.pow10Tab
theorem FTab.keep {w w' : World} (h : FTab w) (hb : Below w.heap.size w w') : FTab w' := TabIs_below (g := 3) (by kernel_rfl) h hb
def StrPostFl (x : List UInt8) (w : World) (e : Ending) (w' : World) : Prop := e = .returned (.string ⟨x.toArray⟩) ∧ Below w.heap.size w w'
end Go.Proofs.YtldhmfkojaekfaaGreatDoor
namespace Go.Proofs.YtldhmfkojaekfaaGreatDoor
open Go.RowKit Gx
set_option maxRecDepth 100000
def ReadPostF (l : List UInt8) (w : World) (e : Ending) (w' : World) : Prop := ∃ (x : Nat) (er : Int), e = .returned (.tuple #[.int .u64 x, .int .i64 er]) ∧ ReadIs l x er ∧ Below w.heap.size w w'
theorem or_sign (f : Nat) (h : f < 9223372036854775808) : bits BinOp.or IntKind.u64 (f : Int) 9223372036854775808 = ((f + 9223372036854775808 : Nat) : Int) := by
  have h52 : (2 : Nat) ^ 63 = 9223372036854775808 := by decide
  have h2 := bits_or_u64_nat f 9223372036854775808 (by omega) (by omega)
  have h3 := Nat.shiftLeft_add_eq_or_of_lt (b := f) (i := 63) (by rw [h52]; exact h) 1
  rw [Nat.shiftLeft_eq, Nat.one_mul, h52, Nat.or_comm] at h3
  rw [← h3, Nat.add_comm] at h2
  exact h2

set_option maxHeartbeats 4000000 in
theorem read_f (s : ByteArray) (w : World) : Calls Tryz.prog 103 #[.string s] w (ReadPostF s.data.toList w) := by
  have hfin : ∀ (x : Nat) (er : Int) w', ReadIs s.data.toList x er → Below w.heap.size w w' → ReadPostF s.data.toList w (.returned (.tuple #[.int .u64 x, .int .i64 er])) w' := fun x er w' h1 h2 => ⟨x, er, rfl, h1, h2⟩
  have hl := Lib.size_eq s
  have HFIN := Lib.hid hfin
  generalize ReadPostF s.data.toList w = POST at *
  clear hfin
  by_cases hbig : 80 < s.size
  · have N := Lib.hid (HFIN.out 0 2 w (.inl ⟨by omega, rfl, by decide⟩) (Below.refl _ _))
    have t0 : decide ((80 : Int) < (s.size : Int)) = true := decide_eq_true (by omega)
    clear hl HFIN
    go_enter Tryz.func103, Tryz.ntmps103
    go_wp2_with fail
    try go_ret2
    exact N.out
  have t0 : decide ((80 : Int) < (s.size : Int)) = false := decide_eq_false (by omega)
  have hcp := Tryz.strings_CutPrefix s ⟨#[45]⟩ w
  have e45 : (⟨#[45]⟩ : ByteArray).data.toList = [45] := rfl
  rw [e45] at hcp
  have htp : (Lib.trimPrefix s.data.toList [45]).length ≤ 80 := by
    unfold Lib.trimPrefix
    split
    · rw [List.length_drop]; omega
    · omega
  have hR1 := fun x er (h : s.data.toList ≠ nanTxt) (h2 : Lib.trimPrefix s.data.toList [45] = infTxt) (h3 : x = 9218868437227405312 + signBit (Lib.hasPrefix s.data.toList [45])) (h4 : er = (0 : Int)) => (show ReadIs s.data.toList x er from .inr ⟨by omega, .inr (.inl ⟨h, h2, h3, h4⟩)⟩)
  have hR2 := fun x er (h : s.data.toList ≠ nanTxt) (h2 : Lib.trimPrefix s.data.toList [45] ≠ infTxt) (h3 : NumIs (Lib.trimPrefix s.data.toList [45]) x er (Lib.hasPrefix s.data.toList [45])) => (show ReadIs s.data.toList x er from .inr ⟨by omega, .inr (.inr ⟨h, h2, h3⟩)⟩)
  obtain ⟨R, hR⟩ : ∃ R : ByteArray, R = ⟨(Lib.trimPrefix s.data.toList [45]).toArray⟩ := ⟨_, rfl⟩
  have hRl : R.data.toList = Lib.trimPrefix s.data.toList [45] := by rw [hR]
  rw [← hR] at hcp
  rw [← hRl] at hR1 hR2 htp
  rw [← Lib.size_eq] at htp
  obtain ⟨mi, hmi⟩ : ∃ m, m = Lib.hasPrefix s.data.toList [45] := ⟨_, rfl⟩
  rw [← hmi] at hcp hR1 hR2
  have HC := Lib.hid hcp
  have HR1 := Lib.hid hR1
  have HR2 := Lib.hid hR2
  clear hcp e45 hR1 hR2 hR hRl hmi hl hbig
  have hor := or_sign 9218868437227405312 (by decide)
  by_cases hn : s.data.toList = nanTxt
  · have N := Lib.hid (fun w' hb => HFIN.out 9221120237041090561 0 w' (by rw [hn]; exact .inr ⟨by decide, .inl ⟨rfl, rfl, rfl⟩⟩) hb)
    have tn : (s.toList == [110, 97, 110]) = true := by rw [Lib.toList_data, hn]; rfl
    clear HFIN HR1 HR2 hn hor
    go_enter Tryz.func103, Tryz.ntmps103
    go_wp2_with fail
    refine HC.out.mono ?_
    rintro e0 w1 ⟨rfl, rfl⟩
    go_wp2_with fail
    try go_ret2
    exact N.out _ (Below.refl _ _)
  have tn : (s.toList == [110, 97, 110]) = false := by
    rw [Lib.toList_data, beq_eq_false_iff_ne]; exact hn
  by_cases hi : R.data.toList = infTxt
  · have ti : (R.toList == [105, 110, 102]) = true := by rw [Lib.toList_data, hi]; rfl
    have N := Lib.hid (fun x h3 w' hb => HFIN.out x 0 w' (HR1.out x 0 hn hi h3 rfl) hb)
    have HOR := Lib.hid hor
    clear HFIN HR1 HR2 hn hi hor
    cases mi
    all_goals
      go_enter Tryz.func103, Tryz.ntmps103
      go_wp2_with fail
      refine HC.out.mono ?_
      rintro e0 w1 ⟨rfl, rfl⟩
      go_wp2_with fail
      try go_ret2
      first | exact N.out _ rfl _ (Below.refl _ _) | (have h := N.out _ rfl w1 (Below.refl _ _); rw [show (9218868437227405312 + signBit true : Nat) = 9218868437227405312 + 9223372036854775808 from rfl, ← HOR.out] at h; exact h)
  have ti : (R.toList == [105, 110, 102]) = false := by
    rw [Lib.toList_data, beq_eq_false_iff_ne]; exact hi
  have HNUM := Lib.hid (fun x er h3 w' hb => HFIN.out x er w' (HR2.out x er hn hi h3) hb)
  have HL := fun w0 => literal_any R w0 (by omega)
  unfold LitPost at HL
  have HLL := Lib.hid HL
  have HSG := Lib.hid or_sign
  clear HFIN HR1 HR2 hn hi hor HL
  unfold NumIs at HNUM
  have R80 : R.data.toList.length ≤ 80 := by rw [← Lib.size_eq]; exact htp
  generalize R.data.toList = LR at *
  go_enter Tryz.func103, Tryz.ntmps103
  go_wp2_with fail
  refine HC.out.mono ?_
  rintro e0 w1 ⟨rfl, rfl⟩
  go_wp2_with fail
  refine (HLL.out w1).mono ?_
  rintro e0 w2 (⟨hlit, rfl, hb2⟩ | ⟨d, x, hlit, rfl, hb2⟩)
  · have N := Lib.hid (HNUM.out 0 4 (.inl ⟨hlit, rfl, by decide⟩) w2 hb2)
    clear hb2 hlit
    go_wp2_with fail
    try go_ret2
    exact N.out
  obtain ⟨k1, k2, k3⟩ := litOf_some hlit
  have htl := trim_len d.data.toList
  have hok := trim_ok k1
  have hTL := fun w0 => Tryz.strings_TrimLeft_one d 48 (by decide) w0
  have N1 := Lib.hid (fun b (hh : Hits (decVal (Lib.trimLeftB d.data.toList 48)) (max (min x 1000) (-1000)) b) (h7 : b < 9218868437227405312) w' hb => HNUM.out (b + signBit mi) 0 (.inr ⟨_, _, b, hlit, hh, .inr ⟨h7, rfl, rfl⟩⟩) w' hb)
  have N2 := Lib.hid (fun b (hh : Hits (decVal (Lib.trimLeftB d.data.toList 48)) (max (min x 1000) (-1000)) b) (h7 : b = 9218868437227405312) w' hb => HNUM.out 0 7 (.inr ⟨_, _, b, hlit, hh, .inl ⟨h7, rfl, by decide⟩⟩) w' hb)
  obtain ⟨T, hT⟩ : ∃ T : ByteArray, T = ⟨(Lib.trimLeftB d.data.toList 48).toArray⟩ := ⟨_, rfl⟩
  have hTl : T.data.toList = Lib.trimLeftB d.data.toList 48 := by rw [hT]
  have hTL2 : ∀ w0, Calls Tryz.prog 125 #[.string d, .string ⟨#[48]⟩] w0 fun e w' => e = .returned (.string T) ∧ w' = w0 := by
    intro w0; rw [hT]; exact hTL w0
  rw [← hTl] at N1 N2 htl hok
  have T160 : T.size ≤ 160 := by rw [Lib.size_eq]; omega
  have HTL := Lib.hid hTL2
  have B2 := Lib.hid hb2
  have e7 : max (min x 1000) (-1000) = max (min x 1000) (-1000) := rfl
  clear hTL hTL2 hT hTl htl k1 k2 k3 hlit HNUM hb2 e7 R80 HLL
  go_wp2_with fail
  refine (HTL.out w2).mono ?_
  rintro e0 w3 ⟨rfl, rfl⟩
  rcases Nat.eq_zero_or_pos T.size with zT | pT
  · obtain rfl := bytes_nilFl zT
    have h0 : ∀ e : Int, Hits (decVal []) e 0 := by
      intro e
      have e2 : decVal [] = 0 := rfl
      rw [e2]
      unfold Hits
      rw [Nat.zero_mul]
      exact rnd_zero75 _ (tenDn_pos _)
    have N := Lib.hid (N1.out 0 (h0 _) (by decide) w3 B2.out)
    have HOR := Lib.hid (HSG.out 0 (by decide))
    clear h0 zT N1 N2 hok
    cases mi
    all_goals
      go_wp2_with fail
      try go_ret2
      first | exact N.out | (have h := N.out; rw [show (0 + signBit true : Nat) = 0 + 9223372036854775808 from rfl, ← HOR.out] at h; exact h)
  obtain ⟨em1, em2⟩ := bytes_emFl pT
  have hdk := hok (list_neFl pT)
  have hR := fun w0 => bigRead_any T w0
  have hT2 : T.data.toList.length ≤ 160 := by rw [← Lib.size_eq]; exact T160
  have hR2 := fun w0 => (hR w0).mono (R' := fun e w' => ∃ ad cap, e = .returned (.tuple #[.slice ad (canon (decVal T.data.toList)).length cap, .int .i64 0]) ∧ Rd .u32 w' ad cap (canon (decVal T.data.toList)) ∧ Below w0.heap.size w0 w') (by
    rintro e w' (⟨-, -, ad, cap, rfl, h2, h3⟩ | ⟨h, -⟩)
    · exact ⟨ad, cap, rfl, h2, h3⟩
    · exact absurd ⟨hdk, by omega⟩ h)
  have hlt := decVal_lt hdk
  have hfit : Fits (decVal T.data.toList) 21 := Nat.lt_of_lt_of_le hlt (Nat.le_trans (Nat.pow_le_pow_right (by decide) hT2) (Nat.le_of_lt (ten_fitsK 160 21 (by omega))))
  generalize decVal T.data.toList = V at *
  obtain ⟨y, hy⟩ : ∃ y, y = max (min x 1000) (-1000) := ⟨_, rfl⟩
  have hy2 : -1000 ≤ y ∧ y ≤ 1000 := by omega
  rw [← hy] at N1 N2
  have HNR := Lib.hid (fun w0 po pc (hr : Rd .u32 w0 po pc (canon V)) =>
    near_two' po pc (canon V) w0 V y hr (bval_canon _) (Nat.le_trans hfit.len (by decide)) hy2.1 hy2.2 (Nat.le_trans (blen_of_fits _ _ hfit) (by decide)))
  unfold NearPost at HNR
  have HR := Lib.hid hR2
  have HY := Lib.hid hy
  clear hR hR2 hdk hlt hfit hok hy hy2 hT2
  go_wp2_with fail
  refine (HR.out w3).mono ?_
  rintro e0 w4 ⟨mo, mc, rfl, hr, hb4⟩
  have HN := Lib.hid (HNR.out w4 mo mc hr)
  have B4 := Lib.hid (B2.out.trans (hb4.mono B2.out.size))
  clear hr hb4 HNR
  go_wp2_with fail
  try rw [← HY.out]
  refine HN.out.mono ?_
  rintro e0 w5 ⟨b, rfl, hr, hb5⟩
  have hble := hr.le
  have B5 := Lib.hid (B4.out.trans (hb5.mono B4.out.size))
  have HH := Lib.hid (show Hits V y b from hr)
  clear hr hb5 HN
  by_cases hinf : b = 9218868437227405312
  · have N := Lib.hid (N2.out b HH.out hinf w5 B5.out)
    clear N1 N2 HH
    subst hinf
    go_wp2_with fail
    try go_ret2
    exact N.out
  · have hlt : b < 9218868437227405312 := by omega
    have N := Lib.hid (N1.out b HH.out hlt w5 B5.out)
    have HOR := Lib.hid (HSG.out b (by omega))
    have tb : ((b : Int) == 9218868437227405312) = false := by rw [beq_eq_false_iff_ne]; omega
    have tb2 : decide ((b : Int) = 9218868437227405312) = false := decide_eq_false (by omega)
    clear N1 N2 HH hinf
    cases mi
    all_goals
      go_wp2_with fail
      try go_ret2
      first | exact N.out | (have h := N.out; rw [show (b + signBit true : Nat) = b + 9223372036854775808 from rfl, ← HOR.out] at h; exact h)
end Go.Proofs.YtldhmfkojaekfaaGreatDoor
