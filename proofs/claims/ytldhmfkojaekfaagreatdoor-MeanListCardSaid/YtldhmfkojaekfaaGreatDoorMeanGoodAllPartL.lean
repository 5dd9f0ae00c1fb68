/-
  The contract of big.Read. No conditions.
  What float.nearest's contract leans on. No conditions.
  The contracts of float.nat, float.odd and float.nearest. Conditions: not too long.
  The walk of typecasekeep.FloatNear. No conditions.
  Plain law: of a fraction's digits 17 are enough, and no fewer than the first that tell it. No conditions.
  Plain law: 17 digits; no fewer digits than the first that tell a fraction. No conditions.
  The contract of float.Short. Conditions: 64 bits.
  Plain law: how many digits are told; and the law of FloatShort. No conditions.
  Plain law: the digits without the noughts at the end, and how many these were, are the number. No conditions.
  The walk of typecasekeep.FloatBack. No conditions.
  Plain law: a fraction's digits with their point are read as they were told. No conditions.
  Plain law: which fraction a text tells; it is told as it was read. No conditions.
  The contract of utf.Size. No conditions.
  Plain laws on codes of runes: what is decoded, where codes begin, which texts are good. No conditions.
  Plain law: the digits of a number to base 16. No conditions.
  Plain law: texts between quotes. No conditions.
  Plain law: which keys are bare. No conditions.
  The contracts of num.digit, num.base and typecasekeep.nums. No conditions.
  Plain laws: how a numeral is read. No conditions.
-/
import Derived.Lib.Strings
import Derived.Lib.ItoaNum
import Derived.Lib.TrimByte
import Derived.Shelf.Strings.BuilderRune
import Derived.Test.YtldhmfkojaekfaaGreatDoorProg
import Derived.WalkLawsBesides
import Derived.Deep.DeepFit
import Derived.Lib.MapLaws
import Derived.Lib.QuoteLoop
import Derived.Lib.Bytealg
import Derived.Test.YtldhmfkojaekfaaGreatDoorMeanGoodAllPartK
set_option linter.unusedVariables false
namespace Go.Proofs.YtldhmfkojaekfaaGreatDoor
open Go.RowKit Gx
set_option maxRecDepth 100000
def ReadPostFl (l : List UInt8) (w : World) (e : Ending) (w' : World) : Prop :=
  (decOk l ∧ l.length ≤ 1000 ∧ ∃ ad cap, e = .returned (.tuple #[.slice ad (canon (decVal l)).length cap, .int .i64 0]) ∧ Rd .u32 w' ad cap (canon (decVal l)) ∧ Below w.heap.size w w') ∨
  (¬ (decOk l ∧ l.length ≤ 1000) ∧ ∃ c : Int, c ≠ 0 ∧ e = .returned (.tuple #[.slice none 0 0, .int .i64 c]) ∧ Below w.heap.size w w')

theorem last_ne (l : List Int) (hw : Words l) (h : 4294967296 ^ (l.length - 1) ≤ bval l) (x : Int) (hx : l.getLast? = some x) : x ≠ 0 := by
  have hne : l ≠ [] := by intro e; subst e; simp at hx
  have e := List.dropLast_concat_getLast hne
  intro h0
  rw [List.getLast?_eq_some_getLast hne] at hx
  have hx' : l.getLast hne = x := by simpa using hx
  rw [hx', h0] at e
  have h1 : bval l = bval l.dropLast := by
    conv => lhs; rw [← e]
    rw [bval_append]; simp [bval]
  have h2 := bval_lt l.dropLast (fun y hy => hw y ((List.dropLast_sublist l).subset hy))
  rw [List.length_dropLast] at h2
  omega

theorem read_digit (c o : Int) (hc : 0 ≤ c) (ho : 0 ≤ o) : ((c + o * 10) % 4294967296).toNat + 4294967296 * ((c + o * 10) / 4294967296).toNat = c.toNat + 10 * o.toNat := by
  obtain ⟨c, rfl⟩ := Int.eq_ofNat_of_zero_le hc
  obtain ⟨o, rfl⟩ := Int.eq_ofNat_of_zero_le ho
  have e1 : ((c : Int) + (o : Int) * 10) = ((c + o * 10 : Nat) : Int) := by omega
  rw [e1, show ((c + o * 10 : Nat) : Int) % 4294967296 = (((c + o * 10) % 4294967296 : Nat) : Int) from rfl, show ((c + o * 10 : Nat) : Int) / 4294967296 = (((c + o * 10) / 4294967296 : Nat) : Int) from rfl]
  simp only [Int.toNat_natCast]
  rw [Nat.mod_add_div, Nat.mul_comm o 10]
theorem read_arith (X Y Z T D q a b c o : Nat) (hs : X + q * o = Y + q * a) (h : Y + q * c = Z + 9 * T + D) (e : a + 4294967296 * b = c + 10 * o) : X + q * 4294967296 * b = Z + 9 * (T + q * o) + D := by
  have e4 : q * a + q * 4294967296 * b = q * c + 10 * (q * o) := by rw [Nat.mul_assoc, ← Nat.mul_add, e, Nat.mul_add, Nat.mul_left_comm]
  omega
theorem read_step (out out0 : List Int) (j q : Nat) (c o d : Int) (hc : 0 ≤ c) (ho : 0 ≤ o) (hj : j < out.length) (eo : o = out.getD j 0) (eo0 : o = out0.getD j 0)
    (h : bval out + 4294967296 ^ j * c.toNat = bval out0 + 9 * bval (out0.take j) + d.toNat) (hq : q = 4294967296 ^ j) :
    bval (out.set j ((c + o * 10) % 4294967296)) + 4294967296 ^ (j + 1) * ((c + o * 10) / 4294967296).toNat = bval out0 + 9 * bval (out0.take (j + 1)) + d.toNat := by
  have hs := bval_set out j ((c + o * 10) % 4294967296) hj
  rw [← eo, ← hq] at hs
  rw [bval_take_succ, ← eo0, Nat.pow_succ, ← hq]
  rw [← hq] at h
  exact read_arith _ _ _ _ _ _ _ _ _ _ hs h (read_digit c o hc ho)

theorem decVal_take (s : List UInt8) (k : Nat) (h : k < s.length) : decVal (s.take (k + 1)) = decVal (s.take k) * 10 + (s[k].toNat - 48) := by
  rw [List.take_succ_eq_append_getElem h, decVal_snoc]

set_option maxHeartbeats 1000000 in
theorem bigRead_long (s : ByteArray) (w : World) (h : 1000 < s.size) :
    Calls Tryz.prog 126 #[.string s] w (ReadPostFl s.data.toList w) := by
  have ht : decide ((1000 : Int) < (s.size : Int)) = true := by simp; omega
  go_enter Tryz.func126, Tryz.ntmps126
  go_wp2
  go_ret2
  exact .inr ⟨fun ⟨_, h2⟩ => by simp at h2; omega, 2, by decide, rfl, Below.refl _ _⟩

set_option maxHeartbeats 1000000 in
theorem bigRead_empty (w : World) :
    Calls Tryz.prog 126 #[.string ⟨#[]⟩] w (ReadPostFl [] w) := by
  go_enter Tryz.func126, Tryz.ntmps126
  go_wp2
  go_ret2
  exact .inr ⟨fun ⟨h2, _⟩ => h2.1 rfl, 4, by decide, rfl, Below.refl _ _⟩

theorem head_ofFl (s : ByteArray) (h : 0 < s.size) : s.data.toList.head? = some s[0] := by
  have : 0 < s.data.toList.length := by simpa using h
  rw [List.head?_eq_getElem?, List.getElem?_eq_getElem this]; rfl

set_option maxHeartbeats 1000000 in
theorem bigRead_nought (s : ByteArray) (w : World) (h : 1 < s.size) (h2 : s.size ≤ 1000) (h0 : s[0] = 48) :
    Calls Tryz.prog 126 #[.string s] w (ReadPostFl s.data.toList w) := by
  have HN : Hid (¬ (decOk s.data.toList ∧ s.data.toList.length ≤ 1000)) := by
    rintro ⟨⟨-, -, h3⟩, -⟩
    have := h3 (by rw [head_ofFl s (by omega), h0])
    simp at this; omega
  have hb0 : ((s[0].toNat : Int) == 48) = true := by rw [h0]; rfl
  go_enter Tryz.func126, Tryz.ntmps126
  go_wp2
  all_goals
    go_ret2
    exact .inr ⟨HN.out, 4, by decide, rfl, Below.refl _ _⟩

theorem read_canon (V d : Nat) (out out2 : List Int) (c : Int) (ho : out = canon V) (hl : out2.length = out.length) (hw : Words out2) (hc : 0 ≤ c) (hc1 : c ≤ 9)
    (h : bval out2 + 4294967296 ^ out.length * c.toNat = bval out + 9 * bval (out.take out.length) + d) :
    (c = 0 → out2 = canon (V * 10 + d)) ∧ (0 < c → out2 ++ [c] = canon (V * 10 + d)) := by
  have hv : bval out = V := by rw [ho, bval_canon]
  rw [List.take_of_length_le (Nat.le_refl _), hv] at h
  constructor
  · intro h0
    subst h0
    simp only [Int.toNat_zero, Nat.mul_zero, Nat.add_zero] at h
    have e : bval out2 = V * 10 + d := by omega
    rw [← e]
    refine (canon_bval out2 hw (fun x hx => ?_)).symm
    have hne : out2 ≠ [] := by intro e; subst e; simp at hx
    have hlen : 0 < out2.length := List.length_pos_iff.2 hne
    refine last_ne out2 hw ?_ x hx
    have hV : V ≠ 0 := by
      intro h0
      rw [ho, h0, canon_zero] at hl
      exact hne (List.eq_nil_of_length_eq_zero hl)
    have h3 := canon_len_gt V hV
    rw [← ho, ← hl] at h3
    omega
  · intro h0
    have e : bval (out2 ++ [c]) = V * 10 + d := by
      rw [bval_append, hl]
      simp only [bval, Nat.mul_zero, Nat.add_zero]
      omega
    rw [← e]
    refine (canon_bval _ ?_ (fun x hx => ?_)).symm
    · intro y hy
      rcases List.mem_append.1 hy with hy | hy
      · exact hw y hy
      · simp at hy; omega
    · simp at hx; omega

set_option maxHeartbeats 4000000 in
theorem bigRead_loop (s : ByteArray) (w : World) (h : 0 < s.size) (h2 : s.size ≤ 1000) (h0 : s[0] = 48 → s.size = 1) :
    Calls Tryz.prog 126 #[.string s] w (ReadPostFl s.data.toList w) := by
  have HHD : Hid (s.data.toList.head? = some 48 → s.data.toList.length = 1) := by
    intro h3
    rw [head_ofFl s h] at h3
    have := h0 (by simpa using h3)
    simpa using this
  obtain ⟨cap, w1, hconv, -, hsz1, hg, hC⟩ := Gx.conv_bytes_run (P := Tryz.prog) w 9 72 5 s Tryz.underlying9 Tryz.underlying72 Tryz.underlying5
  have hb : Below w.heap.size w w1 := Gx.grown_below hg (Nat.le_refl _) (by simp)
  have HB := Lib.hid hb
  have HC := Lib.hid hC
  have hs1 : w.heap.size + 1 ≤ w1.heap.size := hsz1
  clear hb hC hg hsz1
  have hb0 : (((s[0].toNat : Int) == 48) = false) ∨ ((s[0].toNat : Int) == 48) = true ∧ decide ((1 : Int) < (s.size : Int)) = false := by
    by_cases h3 : s[0] = 48
    · have := h0 h3
      exact .inr ⟨by rw [h3]; rfl, decide_eq_false (by omega)⟩
    · refine .inl ?_
      rw [beq_eq_false_iff_ne]
      intro h4
      apply h3
      apply UInt8.toNat_inj.1
      have : s[0].toNat = 48 := by omega
      rw [this]; rfl
  clear h0
  have hem : s.toList.isEmpty = false := by
    have h3 : s.toList.length = s.size := by rw [Go.Lib.toList_data]; simp
    cases h4 : s.toList with
    | nil => rw [h4] at h3; simp at h3; omega
    | cons => rfl
  have hem2 : ¬ s.toList = [] := by intro h3; rw [h3] at hem; simp at hem
  rcases hb0 with hb0 | ⟨hb0, hb1⟩
  all_goals
    go_enter Tryz.func126, Tryz.ntmps126
    go_wp2
    clear hconv hem hem2
    go_loopw [4, 27] (fun v i wr => ∃ (k : Nat) (out : List Int) (vo : Option Addr) (vc : Nat), k ≤ s.size ∧ i = .int .i64 k ∧ v = .slice vo out.length vc ∧ out.length ≤ k ∧ Hid (out = canon (decVal (s.data.toList.take k))) ∧
        Hid (∀ b ∈ s.data.toList.take k, isDigit b = true) ∧ wr.ownsRow (w.heap.size + 1) 145 1 (.slice vo out.length vc) out.length (out.map (Value.int .u32)) ∧ Below (w.heap.size + 1) w1 wr)
      (fun _ i _ => s.size - (intOf i).toNat)
    case atStart => exact ⟨0, [], none, 0, Nat.zero_le _, rfl, rfl, Nat.le_refl _, rfl, fun b hb => by simp at hb, World.ownsRow_nil _ _ _ _, Below.refl _ _⟩
    case round =>
      obtain ⟨k, out, vo, vc, hk, rfl, rfl, hol, hout, hdig, hown, hbl⟩ := hrel
      have hbs := hbl.size
      have hWB : Hid (Below w.heap.size w wr) := HB.out.trans (hbl.mono (Nat.le_succ _))
      by_cases hlt : k < s.size
      · have hc : wr.cell? ⟨w.heap.size, k, none⟩ = some (.int .u8 (s.data[k].toNat : Int)) := (hbl.cell (p := ⟨w.heap.size, k, none⟩) (Nat.lt_succ_self _)).trans (HC.out k hlt)
        have htk : k < s.data.toList.length := by simpa using hlt
        have eb : s.data.toList[k] = s.data[k] := rfl
        obtain ⟨b, hb⟩ : ∃ b, b = s.data[k] := ⟨_, rfl⟩
        rw [← hb] at hc eb
        have hb255 : (b.toNat : Int) ≤ 255 := by have := b.toNat_lt; omega
        have EB := Lib.hid eb
        clear hb eb
        by_cases hd : isDigit b = true
        · have hd' := hd
          simp [isDigit] at hd'
          have hdl : ¬ (b.toNat : Int) < 48 := by omega
          have hdg : ¬ (57 : Int) < (b.toNat : Int) := by omega
          have hV : Hid (decVal (s.data.toList.take (k + 1)) = decVal (s.data.toList.take k) * 10 + (b.toNat - 48)) := by
            show _ = _
            rw [decVal_take _ _ htk, EB.out]
          have hD2 : Hid (∀ b ∈ s.data.toList.take (k + 1), isDigit b = true) := by
            intro c hcm
            rw [List.take_succ_eq_append_getElem htk] at hcm
            rcases List.mem_append.1 hcm with hcm | hcm
            · exact hdig.out c hcm
            · simp only [List.mem_singleton] at hcm
              rw [hcm, EB.out]; exact hd
          clear hd htk EB
          go_wp2
          go_loopw [7, 42] (fun cv jv wi => ∃ (j : Nat) (c : Int) (out2 : List Int), j ≤ out.length ∧ jv = .int .i64 j ∧ cv = .int .u64 c ∧ 0 ≤ c ∧ c ≤ 9 ∧
              Hid (out2.length = out.length) ∧ Words out2 ∧ Hid (∀ t, j ≤ t → out2.getD t 0 = out.getD t 0) ∧
              Hid (bval out2 + 4294967296 ^ j * c.toNat = bval out + 9 * bval (out.take j) + (b.toNat - 48)) ∧
              wi.ownsRow (w.heap.size + 1) 145 1 (.slice vo out.length vc) out.length (out2.map (Value.int .u32)) ∧ Below (w.heap.size + 1) w1 wi)
            (fun _ jv _ => out.length - (intOf jv).toNat)
          case atStart => exact ⟨0, (b.toNat : Int) - 48, out, Nat.zero_le _, rfl, rfl, by omega, by omega, rfl, by rw [hout.out]; exact canon_words _, fun t _ => rfl, by show _ = _; simp [bval]; omega, hown, hbl⟩
          case round =>
            clear hown hbl hbs hWB hc
            obtain ⟨j, c, out2, hj, rfl, rfl, hc0, hc1, hl2, hw2, hsame, hval, hown2, hb2⟩ := hrel
            have HW2 := Lib.hid hw2
            clear hw2
            have hbs := hb2.size
            by_cases hjl : j < out.length
            · obtain ⟨g, gc, he, hg1, hg2, hg3, -⟩ := Gx.own_cell hown2 (by omega)
              obtain ⟨hvo, hvc⟩ : vo = some ⟨g, 0, none⟩ ∧ vc = gc := by simpa using he
              subst hvo
              clear he hvc hg3
              have hl2' : out2.length = out.length := hl2.out
              have hcell : wr.cell? ⟨g, j, none⟩ = some (.int .u32 (out2.getD j 0)) := by
                rw [hown2.cellAt j (by omega)]
                simp [List.getD, List.getElem?_eq_getElem (show j < out2.length by omega)]
              have hfz : wr.frozen? ⟨g, j, none⟩ = false := hown2.frozenAt j
              obtain ⟨bo0, bo1⟩ := words_getD HW2.out j
              obtain ⟨o, eo⟩ : ∃ o, o = out2.getD j 0 := ⟨_, rfl⟩
              rw [← eo] at hcell bo0 bo1
              have hT := read_step out2 out j _ c o ((b.toNat : Int) - 48) hc0 bo0 (by omega) eo (eo.trans (hsame.out j (Nat.le_refl _))) (by have := hval.out; rw [this]; congr 1; omega) rfl
              have HT : Hid (bval (out2.set j ((c + o * 10) % 4294967296)) + 4294967296 ^ (j + 1) * ((c + o * 10) / 4294967296).toNat = bval out + 9 * bval (out.take (j + 1)) + (b.toNat - 48)) := by
                show _ = _
                rw [hT]; congr 1; omega
              clear eo hT
              have hst := hown2.stored j (.int .u32 ((c + o * 10) % 4294967296))
              have HBN := Lib.hid (hb2.grown hst.2 (Nat.le_trans hs1 hbs) (fun q e => by cases e; exact hg1))
              have HON : Hid ((wr.setCell ⟨g, j, none⟩ (.int .u32 ((c + o * 10) % 4294967296))).ownsRow (w.heap.size + 1) 145 1 (.slice (some ⟨g, 0, none⟩) out.length vc) out.length ((out2.set j ((c + o * 10) % 4294967296)).map (Value.int .u32))) := by
                show World.ownsRow _ _ _ _ _ _ _
                rw [List.map_set]; exact hst.1
              have hw3 := Lib.hid (words_set HW2.out j ((c + o * 10) % 4294967296) (by omega) (by omega))
              have hl3 : Hid ((out2.set j ((c + o * 10) % 4294967296)).length = out.length) := by show _ = _; rw [List.length_set]; exact hl2'
              have hs3 : Hid (∀ t, j + 1 ≤ t → (out2.set j ((c + o * 10) % 4294967296)).getD t 0 = out.getD t 0) := by
                intro t ht
                rw [getD_set_ne _ _ _ _ (by omega)]
                exact hsame.out t (by omega)
              clear hst hown2 hl2' hb2
              go_wp2
              go_roundw
              case rel => exact ⟨j + 1, (c + o * 10) / 4294967296, out2.set j ((c + o * 10) % 4294967296), by omega, by go_num, rfl, by omega, by omega, hl3, hw3.out, hs3, HT, HON.out, HBN.out⟩
              case measure => simp [intOf]; omega
            · obtain rfl : j = out.length := by omega
              have hrc := read_canon _ _ out out2 c hout.out hl2.out HW2.out hc0 hc1 hval.out
              rw [← hV.out] at hrc
              have HRC := Lib.hid hrc
              clear hrc hsame hval hjl
              by_cases hcz : c = 0
              · subst hcz
                have hd0 : decide ((0 : Int) < 0) = false := rfl
                have hl4 : Hid (out2.length = out.length) := hl2
                go_wp2
                go_roundw
                case rel => exact ⟨k + 1, out2, vo, vc, by omega, by go_num, by rw [hl4.out], by rw [hl4.out]; omega, HRC.out.1 rfl, hD2, by rw [hl4.out]; exact hown2, hb2⟩
                case measure => simp [intOf]; omega
              · have hcp : 0 < c := by omega
                have hcp' : decide ((0 : Int) < c) = true := by simpa using hcp
                go_wp2_with (first
                  | (at_builtin; refine Gx.wpList_push wr rfl _ _ 169 rfl (w.heap.size + 1) 145 (.int .u32 0) 1 4 Tryz.underlying169 Tryz.info_u32 rfl (by decide) _ _ _ [.int .u32 c] _ rfl rfl (by exact hown2) rfl rfl ?e2 ?e3 ?e4 ?e5 ?_))
                case e2 => intro u hu; simp at hu; subst hu; rfl
                case e3 => omega
                case e4 => omega
                case e5 => omega
                intro v' w' hown5 hg5 _ _
                have hb5 : Below (w.heap.size + 1) w1 w' := hb2.grown hg5 (Nat.le_trans hs1 hbs) (fun k e => (hown2.lt k e).1)
                obtain ⟨vo5, vc5, rfl⟩ := Gx.own_form hown5
                have hl5 : (out2 ++ [c]).length = out.length + 1 := by simp [hl2.out]
                have hown6 : w'.ownsRow (w.heap.size + 1) 145 1 (.slice vo5 (out2 ++ [c]).length vc5) (out2 ++ [c]).length ((out2 ++ [c]).map (Value.int .u32)) := by
                  rw [hl5, List.map_append]; exact hown5
                have HL5 := Lib.hid hl5
                clear hl5 hown5 hown2 hg5 hb2
                go_wp2
                go_roundw
                case rel => exact ⟨k + 1, out2 ++ [c], vo5, vc5, by omega, by go_num, by rw [HL5.out], by rw [HL5.out]; omega, HRC.out.2 hcp, hD2, hown6, hb5⟩
                case measure => simp [intOf]; omega
        · have HN : Hid (¬ (decOk s.data.toList ∧ s.data.toList.length ≤ 1000)) := by
            rintro ⟨⟨-, h3, -⟩, -⟩
            apply hd
            rw [← EB.out]
            exact h3 _ (List.getElem_mem htk)
          simp [isDigit] at hd
          clear hown
          by_cases hdl : b.toNat < 48
          · have hdl' : decide ((b.toNat : Int) < 48) = true := by simp; omega
            go_wp2
            go_ret2
            exact .inr ⟨HN.out, 4, by decide, rfl, hWB.out⟩
          · have hdl' : decide ((b.toNat : Int) < 48) = false := by simp; omega
            have hdg' : decide ((57 : Int) < (b.toNat : Int)) = true := by simp; omega
            go_wp2
            go_ret2
            exact .inr ⟨HN.out, 4, by decide, rfl, hWB.out⟩
      · obtain rfl : k = s.size := by omega
        have hdig' := hdig.out
        have hout' := hout.out
        rw [List.take_of_length_le (by simp)] at hdig' hout'
        have hnil : s.data.toList ≠ [] := by
          intro h3
          have h4 : s.data.toList.length = s.data.size := Array.length_toList
          have h5 : s.data.size = s.size := rfl
          rw [h3] at h4
          have h6 : 0 = s.data.size := h4
          omega
        have hok : decOk s.data.toList := ⟨hnil, hdig', HHD.out⟩
        have hw : Words out := by rw [hout']; exact canon_words _
        obtain ⟨ad', cap', he, hr⟩ := Gx.Rd.own (k := .u32) (xs := out) hown (wf_words hw)
        obtain ⟨rfl, rfl⟩ : vo = ad' ∧ vc = cap' := by simpa using he
        have HR := Lib.hid hr
        have HO := Lib.hid hout'
        have HOK := Lib.hid hok
        clear hr hout' hok hdig' hown hw he hnil
        go_wp2
        go_ret2
        refine .inl ⟨HOK.out, by simpa using h2, vo, vc, ?_, ?_, hWB.out⟩
        · rw [← HO.out]; rfl
        · rw [← HO.out]; exact HR.out

theorem bigRead_any (s : ByteArray) (w : World) : Calls Tryz.prog 126 #[.string s] w (ReadPostFl s.data.toList w) := by
  by_cases h1 : 1000 < s.size
  · exact bigRead_long s w h1
  by_cases h0 : s.size = 0
  · obtain ⟨⟨l⟩⟩ := s
    have : l = [] := List.eq_nil_of_length_eq_zero h0
    subst this
    exact bigRead_empty w
  by_cases h2 : s[0] = 48 ∧ 1 < s.size
  · exact bigRead_nought s w h2.2 (by omega) h2.1
  · exact bigRead_loop s w (by omega) (by omega) (fun h3 => by
      have : ¬ 1 < s.size := fun h4 => h2 ⟨h3, h4⟩
      omega)
end Go.Proofs.YtldhmfkojaekfaaGreatDoor
namespace Go.Proofs.YtldhmfkojaekfaaGreatDoor
open Go.RowKit Gx
set_option maxRecDepth 100000
end Go.Proofs.YtldhmfkojaekfaaGreatDoor
namespace Go.Proofs.YtldhmfkojaekfaaGreatDoor
open Go.RowKit Gx
set_option maxRecDepth 100000
/-- whether a number is odd -/
def OddPost (n : Nat) (w : World) (e : Ending) (w' : World) : Prop := ∃ b, (b = true → n % 2 = 1) ∧ (b = false → n % 2 ≠ 1) ∧ e = .returned (.bool b) ∧ w = w'
/-- the number c * 10^k is the fraction b -/
def Hits (c : Nat) (k : Int) (b : Nat) : Prop := Rnd (Y75 (c * tenUp k)) (tenDn k) b
theorem Hits.uniq {c : Nat} {k : Int} {b d : Nat} (h : Hits c k b) (g : Hits c k d) : b = d := Rnd.uniq h g (tenDn_pos k) (tenDn_pos k) rfl
def lowOf (N D : Nat) (k : Int) : Nat := N * tenDn k / (D * tenUp k)
def highOf (N D : Nat) (k : Int) : Nat := if N * tenDn k % (D * tenUp k) = 0 then lowOf N D k else lowOf N D k + 1
/-- its digits, without the noughts at the end -/
def shortOf (c : Nat) : List UInt8 := Lib.trimRightB (decText c) 48
open Classical in
/-- which of the two is taken -/
def Pick (low high : Nat) (k : Int) (b : Nat) (cc : Int) (c : Nat) : Prop := c = if ¬ Hits low k b ∨ (Hits high k b ∧ (0 < cc ∨ (cc = 0 ∧ low % 2 = 1))) then high else low
theorem Pick.uniq {low high : Nat} {k : Int} {b : Nat} {cc : Int} {c d : Nat} (h : Pick low high k b cc c) (g : Pick low high k b cc d) : c = d := by
  unfold Pick at h g; rw [h, g]
/-- on which side of the middle -/
def halfOf (N D : Nat) (k : Int) : Int := cmpOf (N * tenDn k % (D * tenUp k) + N * tenDn k % (D * tenUp k)) (D * tenUp k)
def NearestPost (N D : Nat) (k : Int) (b : Nat) (w : World) (e : Ending) (w' : World) : Prop :=
  (∃ c, (c = lowOf N D k ∨ c = highOf N D k) ∧ Pick (lowOf N D k) (highOf N D k) k b (halfOf N D k) c ∧ Hits c k b ∧ e = .returned (.tuple #[.string ⟨(shortOf c).toArray⟩, .int .i64 (k + ((decText c).length : Int) - ((shortOf c).length : Int)), .bool true]) ∧ Below w.heap.size w w') ∨
  (¬ Hits (lowOf N D k) k b ∧ ¬ Hits (highOf N D k) k b ∧ e = .returned (.tuple #[.string ⟨#[]⟩, .int .i64 0, .bool false]) ∧ Below w.heap.size w w')

end Go.Proofs.YtldhmfkojaekfaaGreatDoor
namespace Go.Proofs.YtldhmfkojaekfaaGreatDoor
open Go.RowKit Gx
set_option maxRecDepth 100000
def Lim : Nat := 18014398509481983 * 2 ^ 970
end Go.Proofs.YtldhmfkojaekfaaGreatDoor
namespace Go.Proofs.YtldhmfkojaekfaaGreatDoor
set_option maxRecDepth 100000
theorem Rnd.between {Y D Z C W E b : Nat} (h : Rnd Y D b) (g : Rnd Z C b) (hD : 0 < D) (hC : 0 < C) (hE : 0 < E) (h1 : Y * E ≤ W * D) (h2 : W * C ≤ Z * E) : Rnd W E b := by
  refine ⟨h.le, ?_, ?_⟩
  · rcases h.lo with h0 | h0
    · exact .inl h0
    · generalize fmid (b - 1) = f at *
      have a1 : D * f ≤ Y := by omega
      have a2 : E * f * D ≤ W * D := by
        have := Nat.mul_le_mul_right E a1
        rw [show E * f * D = D * f * E by rw [Nat.mul_comm, Nat.mul_assoc, Nat.mul_comm E f]]
        omega
      have a3 := Nat.le_of_mul_le_mul_right a2 hD
      rcases Nat.lt_or_ge (E * f) W with h3 | h3
      · exact .inr (.inl h3)
      · have e3 : E * f = W := Nat.le_antisymm a3 h3
        rcases h0 with h0 | h0
        · exfalso
          have := Nat.mul_lt_mul_of_pos_right h0 hE
          have e4 : W * D = D * f * E := by rw [← e3, Nat.mul_comm, ← Nat.mul_assoc, Nat.mul_right_comm]
          omega
        · exact .inr (.inr ⟨e3, h0.2⟩)
  · rcases g.hi with h0 | h0
    · exact .inl h0
    · generalize fmid b = f at *
      have a1 : Z ≤ C * f := by omega
      have a2 : W * C ≤ E * f * C := by
        have := Nat.mul_le_mul_right E a1
        rw [show E * f * C = C * f * E by rw [Nat.mul_comm, Nat.mul_assoc, Nat.mul_comm E f]]
        omega
      have a3 := Nat.le_of_mul_le_mul_right a2 hC
      rcases Nat.lt_or_ge W (E * f) with h3 | h3
      · exact .inr (.inl h3)
      · have e3 : W = E * f := Nat.le_antisymm a3 h3
        rcases h0 with h0 | h0
        · exfalso
          have := Nat.mul_lt_mul_of_pos_right h0 hE
          have e4 : W * C = C * f * E := by rw [e3, Nat.mul_comm, ← Nat.mul_assoc, Nat.mul_right_comm]
          omega
        · exact .inr (.inr ⟨e3, h0.2⟩)

end Go.Proofs.YtldhmfkojaekfaaGreatDoor
namespace Go.Proofs.YtldhmfkojaekfaaGreatDoor
set_option maxRecDepth 100000
end Go.Proofs.YtldhmfkojaekfaaGreatDoor
namespace Go.Proofs.YtldhmfkojaekfaaGreatDoor
open Go.RowKit Gx
set_option maxRecDepth 100000
/-- the fraction's two numbers -/
def eOf (B : Nat) : Nat := B / 4503599627370496 - 1
def mOf (B : Nat) : Nat := if B < 4503599627370496 then B else B % 4503599627370496 + 4503599627370496
def numOf (B : Nat) : Nat := mOf B * 2 ^ (eOf B - 1074)
def denOf (B : Nat) : Nat := 2 ^ (1074 - eOf B)
/-- c * 10^k is what Short finds for the fraction B -/
def ShortIs (B c : Nat) (kk : Int) : Prop := ∃ (N D : Nat) (top : Int) (n0 : Nat), IsFrac B N D ∧ Bel N D top ∧ ¬ Bel N D (top - 1) ∧ 1 ≤ n0 ∧ n0 ≤ 17 ∧ (-400 ≤ top ∧ N = numOf B ∧ D = denOf B ∧ Pick (lowOf N D kk) (highOf N D kk) kk B (halfOf N D kk) c) ∧ top ≤ 400 ∧ kk = top - (n0 : Int) ∧
  (c = lowOf N D kk ∨ c = highOf N D kk) ∧ Hits c kk B ∧ ∀ i : Nat, 1 ≤ i → i < n0 → ¬ Hits (lowOf N D (top - (i : Int))) (top - (i : Int)) B ∧ ¬ Hits (highOf N D (top - (i : Int))) (top - (i : Int)) B
def ShortPost (b : Nat) (w : World) (e : Ending) (w' : World) : Prop :=
  ((b / 4503599627370496 % 2048 = 2047 ∨ b % 9223372036854775808 = 0) ∧ e = .returned (.tuple #[.string ⟨#[]⟩, .int .i64 0, .int .i64 1]) ∧ Below w.heap.size w w') ∨
  (b / 4503599627370496 % 2048 ≠ 2047 ∧ b % 9223372036854775808 ≠ 0 ∧ ∃ c kk, ShortIs (b % 9223372036854775808) c kk ∧ e = .returned (.tuple #[.string ⟨(shortOf c).toArray⟩, .int .i64 (kk + ((decText c).length : Int) - ((shortOf c).length : Int)), .int .i64 0]) ∧ Below w.heap.size w w')

end Go.Proofs.YtldhmfkojaekfaaGreatDoor
namespace Go.Proofs.YtldhmfkojaekfaaGreatDoor
set_option maxRecDepth 100000
theorem dec_lt (n : Nat) : n < 10 ^ (decText n).length := by
  by_cases h : n = 0
  · subst h; decide
  · have h1 := dig_len_lt n
    have h2 : (decText n).length = (dig n).length := by
      unfold decText; rw [if_neg h, List.length_map, List.length_reverse]
    rw [h2]; exact h1
end Go.Proofs.YtldhmfkojaekfaaGreatDoor
namespace Go.Proofs.YtldhmfkojaekfaaGreatDoor
set_option maxRecDepth 100000
end Go.Proofs.YtldhmfkojaekfaaGreatDoor
namespace Go.Proofs.YtldhmfkojaekfaaGreatDoor
open Go.RowKit Gx
set_option maxRecDepth 100000
end Go.Proofs.YtldhmfkojaekfaaGreatDoor
namespace Go.Proofs.YtldhmfkojaekfaaGreatDoor
open Go
set_option maxRecDepth 100000
/-- the digits with their point -/
def pointOf (d : List UInt8) (k : Int) : List UInt8 :=
  if -3 ≤ (d.length : Int) + k ∧ (d.length : Int) + k ≤ 0 then [48, 46] ++ List.replicate (-((d.length : Int) + k)).toNat 48 ++ d
  else if 0 < (d.length : Int) + k ∧ (d.length : Int) + k < d.length then d.take ((d.length : Int) + k).toNat ++ 46 :: d.drop ((d.length : Int) + k).toNat
  else if (d.length : Int) ≤ (d.length : Int) + k ∧ (d.length : Int) + k ≤ 17 then d ++ List.replicate ((d.length : Int) + k - d.length).toNat 48 ++ [46, 48]
  else d.take 1 ++ (if 1 < d.length then 46 :: d.drop 1 else []) ++ 101 :: Lib.itoa ((d.length : Int) + k - 1)

def fracOf (s : List UInt8) : Option (List UInt8 × List UInt8) :=
  if s.head? = some 46 then
    if s.tail.takeWhile isDigit = [] then none else some (s.tail.takeWhile isDigit, s.tail.dropWhile isDigit)
  else some ([], s)
def expVal (e : List UInt8) : Nat := e.foldl (fun x b => min (x * 10 + (b.toNat - 48)) 100000) 0
def signOf (s : List UInt8) : Bool × List UInt8 := if s.head? = some 45 then (true, s.tail) else if s.head? = some 43 then (false, s.tail) else (false, s)
def expEnd (m : Bool × List UInt8) : Option Int :=
  if m.2.takeWhile isDigit = [] ∨ m.2.dropWhile isDigit ≠ [] then none
  else some (if m.1 then -(expVal (m.2.takeWhile isDigit) : Int) else (expVal (m.2.takeWhile isDigit) : Int))
def expOf (s : List UInt8) : Option Int := if s = [] then some 0 else if s.head? ≠ some 101 then none else expEnd (signOf s.tail)
def litEnd (whole : List UInt8) (f : List UInt8 × List UInt8) : Option (List UInt8 × Int) := (expOf f.2).map fun x => (whole ++ f.1, x - (f.1.length : Int))
/-- the digits and the exponent of a text without its sign -/
def litOf (s : List UInt8) : Option (List UInt8 × Int) :=
  if s.takeWhile isDigit = [] ∨ ((s.takeWhile isDigit).head? = some 48 ∧ 1 < (s.takeWhile isDigit).length) ∨ s.dropWhile isDigit = [] then none
  else (fracOf (s.dropWhile isDigit)).bind (litEnd (s.takeWhile isDigit))

theorem tw_split : ∀ (l r : List UInt8), (∀ b ∈ l, isDigit b = true) → (∀ b, r.head? = some b → isDigit b = false) → (l ++ r).takeWhile isDigit = l ∧ (l ++ r).dropWhile isDigit = r
  | [], r, _, hr => by
    cases r with
    | nil => exact ⟨rfl, rfl⟩
    | cons b t => have := hr b rfl; simp [this]
  | a :: l, r, h, hr => by
    have ha := h a (by simp)
    obtain ⟨e1, e2⟩ := tw_split l r (fun b hb => h b (by simp [hb])) hr
    simp [ha, e1, e2]
theorem expF : ∀ (l : List UInt8) (a c : Nat), c = min a 100000 → l.foldl (fun x (b : UInt8) => min (x * 10 + (b.toNat - 48)) 100000) c = min (l.foldl (fun x (b : UInt8) => x * 10 + (b.toNat - 48)) a) 100000
  | [], a, c, h => h
  | b :: l, a, c, h => by
    rw [List.foldl_cons, List.foldl_cons]
    exact expF l _ _ (by subst h; omega)
end Go.Proofs.YtldhmfkojaekfaaGreatDoor
namespace Go.Proofs.YtldhmfkojaekfaaGreatDoor
open Go.RowKit Gx
set_option maxRecDepth 100000
def infTxt : List UInt8 := [105, 110, 102]
def nanTxt : List UInt8 := [110, 97, 110]
def signBit (b : Bool) : Nat := if b then 9223372036854775808 else 0
def NumIs (l : List UInt8) (x : Nat) (er : Int) (m : Bool) : Prop :=
  (litOf l = none ∧ x = 0 ∧ er ≠ 0) ∨
  (∃ d e b, litOf l = some (d, e) ∧ Hits (decVal (Lib.trimLeftB d 48)) (max (min e 1000) (-1000)) b ∧ ((b = 9218868437227405312 ∧ x = 0 ∧ er ≠ 0) ∨ (b < 9218868437227405312 ∧ x = b + signBit m ∧ er = 0)))
/-- what is read of a text -/
def ReadIs (l : List UInt8) (x : Nat) (er : Int) : Prop :=
  (80 < l.length ∧ x = 0 ∧ er ≠ 0) ∨ (l.length ≤ 80 ∧
   ((l = nanTxt ∧ x = 9221120237041090561 ∧ er = 0) ∨ (l ≠ nanTxt ∧ Lib.trimPrefix l [45] = infTxt ∧ x = 9218868437227405312 + signBit (Lib.hasPrefix l [45]) ∧ er = 0) ∨
    (l ≠ nanTxt ∧ Lib.trimPrefix l [45] ≠ infTxt ∧ NumIs (Lib.trimPrefix l [45]) x er (Lib.hasPrefix l [45]))))

theorem tw_digs : ∀ (l : List UInt8), ∀ b ∈ l.takeWhile isDigit, isDigit b = true
  | [], b, hb => by simp at hb
  | a :: l, b, hb => by
    cases ha : isDigit a with
    | false => simp [ha] at hb
    | true =>
      rw [List.takeWhile_cons, if_pos ha] at hb
      rcases List.mem_cons.1 hb with rfl | hb
      · exact ha
      · exact tw_digs l b hb
theorem frac_some {s f r : List UInt8} (h : fracOf s = some (f, r)) : (∀ b ∈ f, isDigit b = true) ∧ f.length ≤ s.length := by
  unfold fracOf at h
  split at h
  · split at h
    · cases h
    · obtain ⟨rfl, rfl⟩ := Prod.mk.inj (Option.some.inj h)
      exact ⟨tw_digs _, by have := (List.takeWhile_sublist isDigit (l := s.tail)).length_le; rw [List.length_tail] at this; omega⟩
  · obtain ⟨rfl, rfl⟩ := Prod.mk.inj (Option.some.inj h)
    exact ⟨fun b hb => by simp at hb, by simp⟩
theorem litOf_some {l d : List UInt8} {x : Int} (h : litOf l = some (d, x)) : (∀ b ∈ d, isDigit b = true) ∧ d ≠ [] ∧ d.length ≤ 2 * l.length := by
  unfold litOf at h
  split at h
  · cases h
  · rename_i hc
    have hne : l.takeWhile isDigit ≠ [] := fun h => hc (.inl h)
    have l1 := (List.takeWhile_sublist isDigit (l := l)).length_le
    have l2 := (List.dropWhile_sublist isDigit (l := l)).length_le
    have htw := tw_digs l
    obtain ⟨⟨f, r⟩, hf, he⟩ := Option.bind_eq_some_iff.1 h
    unfold litEnd at he
    obtain ⟨a, -, ha⟩ := Option.map_eq_some_iff.1 he
    obtain ⟨rfl, -⟩ := Prod.mk.inj ha
    obtain ⟨g1, g2⟩ := frac_some hf
    refine ⟨fun b hb => (List.mem_append.1 hb).elim (htw b) (g1 b), fun h => hne (List.append_eq_nil_iff.1 h).1, ?_⟩
    show (l.takeWhile isDigit ++ f).length ≤ _
    rw [List.length_append]; omega
/-- digits without noughts ahead: they are a number's text -/
theorem trim_ok {d : List UInt8} (h : ∀ b ∈ d, isDigit b = true) (hne : Lib.trimLeftB d 48 ≠ []) : decOk (Lib.trimLeftB d 48) := by
  have hsub : ∀ b ∈ Lib.trimLeftB d 48, isDigit b = true := fun b hb => h b ((List.dropWhile_sublist _).subset hb)
  refine ⟨hne, hsub, ?_⟩
  intro hh
  exfalso
  unfold Lib.trimLeftB at hh
  have := List.head?_dropWhile_not (fun x : UInt8 => x == 48) d
  rw [hh] at this
  simp at this
theorem trim_len (d : List UInt8) : (Lib.trimLeftB d 48).length ≤ d.length := (List.dropWhile_sublist _).length_le
theorem decVal_lt {l : List UInt8} (h : decOk l) : decVal l < 10 ^ l.length := by
  have h1 := dec_lt (decVal l)
  rwa [text_decVal l h] at h1

def sgOf (b : Nat) : List UInt8 := if 9223372036854775808 ≤ b then [45] else []
/-- what the fraction's text is -/
def TextIs (b : Nat) (t : List UInt8) : Prop :=
  (b / 4503599627370496 % 2048 = 2047 ∧ b % 4503599627370496 ≠ 0 ∧ t = nanTxt) ∨ (b / 4503599627370496 % 2048 = 2047 ∧ b % 4503599627370496 = 0 ∧ t = sgOf b ++ infTxt) ∨
  (b / 4503599627370496 % 2048 ≠ 2047 ∧ b % 9223372036854775808 = 0 ∧ t = sgOf b ++ [48, 46, 48]) ∨
  (b / 4503599627370496 % 2048 ≠ 2047 ∧ b % 9223372036854775808 ≠ 0 ∧ ∃ (c m z : Nat) (kk : Int), ShortIs (b % 9223372036854775808) c kk ∧ c = m * 10 ^ z ∧ m % 10 ≠ 0 ∧ m ≠ 0 ∧ (decText m).length ≤ 17 ∧ -500 ≤ kk + (z : Int) ∧ kk + (z : Int) ≤ 500 ∧ t = sgOf b ++ pointOf (decText m) (kk + (z : Int)))

/-- what is read is of no other kind -/
theorem read_kind {l : List UInt8} {x : Nat} {er : Int} (hr : ReadIs l x er) : x < 18446744073709551616 ∧ (er ≠ 0 → x = 0) ∧ (x = 9221120237041090561 ∨ ¬ (x / 4503599627370496 % 2048 = 2047 ∧ x % 4503599627370496 ≠ 0)) := by
  have hsb : ∀ m, signBit m = 0 ∨ signBit m = 9223372036854775808 := fun m => by cases m; exact .inl rfl; exact .inr rfl
  rcases hr with ⟨-, rfl, h⟩ | ⟨-, ⟨-, rfl, h⟩ | ⟨-, -, rfl, h⟩ | ⟨-, -, ⟨-, rfl, h⟩ | ⟨d, e, b, -, -, ⟨-, rfl, h⟩ | ⟨hb, rfl, h⟩⟩⟩⟩
  · exact ⟨by omega, fun _ => rfl, .inr (by omega)⟩
  · exact ⟨by omega, fun h2 => absurd h h2, .inl rfl⟩
  · rcases hsb (Lib.hasPrefix l [45]) with h2 | h2 <;> rw [h2] <;> exact ⟨by omega, fun h2 => absurd h h2, .inr (by omega)⟩
  · exact ⟨by omega, fun _ => rfl, .inr (by omega)⟩
  · exact ⟨by omega, fun _ => rfl, .inr (by omega)⟩
  · rcases hsb (Lib.hasPrefix l [45]) with h2 | h2 <;> rw [h2] <;> exact ⟨by omega, fun h2 => absurd h h2, .inr (by omega)⟩
end Go.Proofs.YtldhmfkojaekfaaGreatDoor
namespace Go.Proofs.YtldhmfkojaekfaaGreatDoor
open Go.RowKit Gx
/-- a scalar -/
def good (r : Int) : Bool := decide (0 ≤ r) && decide (r ≤ 1114111) && !(decide (55296 ≤ r) && decide (r ≤ 57343))
/-- how many bytes a rune's code has; 0: it has none -/
def runeSize (r : Int) : Int := if good r then (if r < 128 then 1 else if r < 2048 then 2 else if r < 65536 then 3 else 4) else 0

theorem good_iff (r : Int) : good r = true ↔ 0 ≤ r ∧ r ≤ 1114111 ∧ (r < 55296 ∨ 57343 < r) := by
  unfold good
  simp only [Bool.and_eq_true, Bool.not_eq_true', Bool.and_eq_false_iff, decide_eq_true_eq, decide_eq_false_iff_not]
  omega

def SizePost (r : Int) (w : World) (e : Ending) (w' : World) : Prop := e = .returned (.int .i64 (runeSize r)) ∧ w = w'

set_option maxHeartbeats 400000 in
theorem size_any (r : Int) (w : World) : Calls Tryz.prog 139 #[.int .i32 r] w (SizePost r w) := by
  by_cases h0 : r < 0
  · have e : runeSize r = 0 := by unfold runeSize; rw [if_neg (by rw [good_iff]; omega)]
    go_enter Tryz.func139, Tryz.ntmps139
    go_wp2
    go_ret
    exact ⟨by rw [e]; rfl, rfl⟩
  by_cases h1 : 1114111 < r
  · have e : runeSize r = 0 := by unfold runeSize; rw [if_neg (by rw [good_iff]; omega)]
    go_enter Tryz.func139, Tryz.ntmps139
    go_wp2
    go_ret
    exact ⟨by rw [e]; rfl, rfl⟩
  by_cases h2 : 55296 ≤ r ∧ r ≤ 57343
  · have e : runeSize r = 0 := by unfold runeSize; rw [if_neg (by rw [good_iff]; omega)]
    obtain ⟨h2, h3⟩ := h2
    go_enter Tryz.func139, Tryz.ntmps139
    go_wp2
    go_ret
    exact ⟨by rw [e]; rfl, rfl⟩
  have hg : good r = true := by rw [good_iff]; omega
  have e : runeSize r = if r < 128 then 1 else if r < 2048 then 2 else if r < 65536 then 3 else 4 := by unfold runeSize; rw [if_pos hg]
  have E := Lib.hid e
  clear e hg
  by_cases h3 : 55296 ≤ r
  · have h4 : 57343 < r := by omega
    clear h2
    by_cases h5 : r < 65536
    · have e : runeSize r = 3 := by rw [E.out, if_neg (by omega), if_neg (by omega), if_pos h5]
      go_enter Tryz.func139, Tryz.ntmps139
      go_wp2
      go_ret
      exact ⟨by rw [e]; rfl, rfl⟩
    · have e : runeSize r = 4 := by rw [E.out, if_neg (by omega), if_neg (by omega), if_neg h5]
      go_enter Tryz.func139, Tryz.ntmps139
      go_wp2
      go_ret
      exact ⟨by rw [e]; rfl, rfl⟩
  · clear h2
    by_cases h5 : r < 128
    · have e : runeSize r = 1 := by rw [E.out, if_pos h5]
      go_enter Tryz.func139, Tryz.ntmps139
      go_wp2
      go_ret
      exact ⟨by rw [e]; rfl, rfl⟩
    by_cases h6 : r < 2048
    · have e : runeSize r = 2 := by rw [E.out, if_neg h5, if_pos h6]
      go_enter Tryz.func139, Tryz.ntmps139
      go_wp2
      go_ret
      exact ⟨by rw [e]; rfl, rfl⟩
    · have e : runeSize r = 3 := by rw [E.out, if_neg h5, if_neg h6, if_pos (by omega)]
      go_enter Tryz.func139, Tryz.ntmps139
      go_wp2
      go_ret
      exact ⟨by rw [e]; rfl, rfl⟩

def TruePost (w : World) (e : Ending) (w' : World) : Prop := e = .returned (.bool true) ∧ Below w.heap.size w w'

/-- the text of runes -/
def encs (l : List Int) : List UInt8 := l.flatMap Lib.encodeRune
def textOf (l : List Int) : List UInt8 := if l.all good then encs l else []
def textErr (l : List Int) : Int := if l.all good then 0 else 3

end Go.Proofs.YtldhmfkojaekfaaGreatDoor
namespace Go.Proofs.YtldhmfkojaekfaaGreatDoor
open Go.RowKit Gx
theorem byteNat (z : Int) (h0 : 0 ≤ z) (h1 : z < 256) : (z.toNat.toUInt8).toNat = z.toNat := by
  show z.toNat % 256 = z.toNat
  omega

theorem dN2 (n b2 b3 r : Nat) (h0 : 128 ≤ r) (h1 : r ≤ 2047) (hn : 1 < n) : Lib.decodeN n (192 + r / 64) (128 + r % 64) b2 b3 = (r, 2) := by
  unfold Lib.decodeN
  rw [if_neg (by omega), if_pos (by omega), if_pos (by omega)]
  congr 1; omega
theorem dN3 (n b3 r : Nat) (h0 : 2048 ≤ r) (h1 : r ≤ 65535) (h2 : r < 55296 ∨ 57343 < r) (hn : 2 < n) : Lib.decodeN n (224 + r / 4096) (128 + r / 64 % 64) (128 + r % 64) b3 = (r, 3) := by
  have e : (224 + r / 4096) % 16 * 4096 + (128 + r / 64 % 64) % 64 * 64 + (128 + r % 64) % 64 = r := by omega
  unfold Lib.decodeN
  rw [if_neg (by omega), if_neg (by omega), if_pos (by omega), e, if_pos (by omega)]
theorem dN4 (n r : Nat) (h0 : 65536 ≤ r) (h1 : r ≤ 1114111) (hn : 3 < n) : Lib.decodeN n (240 + r / 262144) (128 + r / 4096 % 64) (128 + r / 64 % 64) (128 + r % 64) = (r, 4) := by
  have e : (240 + r / 262144) % 8 * 262144 + (128 + r / 4096 % 64) % 64 * 4096 + (128 + r / 64 % 64) % 64 * 64 + (128 + r % 64) % 64 = r := by omega
  unfold Lib.decodeN
  rw [if_neg (by omega), if_neg (by omega), if_neg (by omega), if_pos (by omega), e, if_pos (by omega)]

/-- a rune's code is decoded to it, whatever stands behind -/
theorem decode_enc (r : Int) (hg : good r = true) (x : List UInt8) : Lib.decodeL (Lib.encodeRune r ++ x) = (r.toNat, (Lib.encodeRune r).length) := by
  rw [good_iff] at hg
  obtain ⟨r, rfl⟩ := Int.eq_ofNat_of_zero_le hg.1
  rw [Lib.decodeL_N, Int.toNat_natCast]
  unfold Lib.encodeRune
  by_cases r1 : (r : Int) ≤ 127
  · rw [Lib.encodeRuneZ_one hg.1 r1]
    simp only [List.map_cons, List.map_nil, List.cons_append, List.nil_append, List.getD_cons_zero, List.length_cons, List.length_nil]
    rw [byteNat _ (by omega) (by omega), Lib.decodeN_ascii _ _ _ _ _ (by omega)]
    simp
  by_cases r2 : (r : Int) ≤ 2047
  · rw [Lib.encodeRuneZ_two (by omega) r2]
    simp only [List.map_cons, List.map_nil, List.cons_append, List.nil_append, List.getD_cons_zero, List.getD_cons_succ, List.length_cons, List.length_nil]
    rw [byteNat _ (by omega) (by omega), byteNat _ (by omega) (by omega), show (192 + (r : Int) / 64).toNat = 192 + r / 64 by omega, show (128 + (r : Int) % 64).toNat = 128 + r % 64 by omega]
    exact dN2 _ _ _ r (by omega) (by omega) (by omega)
  by_cases r3 : (r : Int) ≤ 65535
  · rw [Lib.encodeRuneZ_three (by omega)]
    simp only [List.map_cons, List.map_nil, List.cons_append, List.nil_append, List.getD_cons_zero, List.getD_cons_succ, List.length_cons, List.length_nil]
    rw [byteNat _ (by omega) (by omega), byteNat _ (by omega) (by omega), byteNat _ (by omega) (by omega), show (224 + (r : Int) / 4096).toNat = 224 + r / 4096 by omega,
      show (128 + (r : Int) / 64 % 64).toNat = 128 + r / 64 % 64 by omega, show (128 + (r : Int) % 64).toNat = 128 + r % 64 by omega]
    exact dN3 _ _ r (by omega) (by omega) (by omega) (by omega)
  · rw [Lib.encodeRuneZ_four (by omega) (by omega)]
    simp only [List.map_cons, List.map_nil, List.cons_append, List.nil_append, List.getD_cons_zero, List.getD_cons_succ, List.length_cons, List.length_nil]
    rw [byteNat _ (by omega) (by omega), byteNat _ (by omega) (by omega), byteNat _ (by omega) (by omega), byteNat _ (by omega) (by omega), show (240 + (r : Int) / 262144).toNat = 240 + r / 262144 by omega,
      show (128 + (r : Int) / 4096 % 64).toNat = 128 + r / 4096 % 64 by omega, show (128 + (r : Int) / 64 % 64).toNat = 128 + r / 64 % 64 by omega, show (128 + (r : Int) % 64).toNat = 128 + r % 64 by omega]
    exact dN4 _ r (by omega) (by omega) (by omega)

theorem enc_len (r : Int) : 1 ≤ (Lib.encodeRune r).length ∧ (Lib.encodeRune r).length ≤ 4 := by
  unfold Lib.encodeRune
  rw [List.length_map]
  exact Lib.encodeRuneZ_length r

/-- what no rune's code begins with -/
theorem not_bad (r : Int) (hg : good r = true) (x : List UInt8) : Lib.decodeL (Lib.encodeRune r ++ x) ≠ (65533, 1) := by
  rw [decode_enc r hg]
  intro h
  obtain ⟨h1, h2⟩ := Prod.mk.inj h
  rw [good_iff] at hg
  have : r = 65533 := by omega
  subst this
  rw [show (Lib.encodeRune 65533).length = 3 from by decide] at h2
  omega

/-- a good text -/
def okText (l : List UInt8) : Prop := ∃ rs : List Int, rs.all good = true ∧ l = encs rs

theorem encs_cons (r : Int) (rs : List Int) : encs (r :: rs) = Lib.encodeRune r ++ encs rs := rfl
theorem encs_append (a b : List Int) : encs (a ++ b) = encs a ++ encs b := by unfold encs; rw [List.flatMap_append]
theorem okText_nil : okText [] := ⟨[], rfl, rfl⟩
theorem okText_code (r : Int) (hg : good r = true) (x : List UInt8) : okText (Lib.encodeRune r ++ x) ↔ okText x := by
  constructor
  · rintro ⟨rs, h1, h2⟩
    cases rs with
    | nil =>
      have := (enc_len r).1
      rw [(List.append_eq_nil_iff.1 h2).1] at this
      simp at this
    | cons r2 rs =>
      rw [List.all_cons, Bool.and_eq_true] at h1
      rw [encs_cons] at h2
      have d1 := decode_enc r hg x
      have d2 := decode_enc r2 h1.1 (encs rs)
      rw [h2, d2] at d1
      obtain ⟨e1, e2⟩ := Prod.mk.inj d1
      have := (List.append_inj h2 e2.symm).2
      exact ⟨rs, h1.2, this⟩
  · rintro ⟨rs, h1, h2⟩
    exact ⟨r :: rs, by rw [List.all_cons, hg, h1]; rfl, by rw [encs_cons, h2]⟩

theorem decodeL_pos (l : List UInt8) : 1 ≤ (Lib.decodeL l).2 := by rw [Lib.decodeL_N]; exact Lib.decodeN_ge1 _ _ _ _ _

/-- a step of reading -/
theorem okText_step (l : List UInt8) (hne : l ≠ []) : okText l ↔ Lib.decodeL l ≠ (65533, 1) ∧ okText (l.drop (Lib.decodeL l).2) := by
  constructor
  · rintro ⟨rs, h1, rfl⟩
    cases rs with
    | nil => exact absurd rfl hne
    | cons r rs =>
      rw [List.all_cons, Bool.and_eq_true] at h1
      rw [encs_cons]
      refine ⟨not_bad r h1.1 _, ?_⟩
      rw [decode_enc r h1.1, List.drop_left]
      exact ⟨rs, h1.2, rfl⟩
  · rintro ⟨h1, h2⟩
    have he := Lib.encode_decode l hne (fun h => h1 (Prod.ext h.1 h.2))
    have hv := Lib.decodeN_valid l.length (l.getD 0 0).toNat (l.getD 1 0).toNat (l.getD 2 0).toNat (l.getD 3 0).toNat (UInt8.toNat_lt _)
    rw [← Lib.decodeL_N] at hv
    have hg : good ((Lib.decodeL l).1 : Int) = true := by rw [good_iff]; omega
    have e : l = Lib.encodeRune ((Lib.decodeL l).1 : Int) ++ l.drop (Lib.decodeL l).2 := by rw [he, List.take_append_drop]
    rw [e]
    exact (okText_code _ hg _).2 h2

/-- does a code begin there? -/
def begins : List Int → Int → Bool
  | [], _ => false
  | r :: rs, k => (k == 0) || begins rs (k - ((Lib.encodeRune r).length : Int))

/-- the bytes of a code, but its first, begin none -/
theorem inner (r : Int) (hg : good r = true) (k : Nat) (h0 : 0 < k) (h1 : k < (Lib.encodeRune r).length) : ∃ b t, (Lib.encodeRune r).drop k = b :: t ∧ b.toNat / 64 = 2 := by
  rw [good_iff] at hg
  have key : ∀ z : Int, 0 ≤ z → z < 64 → ((128 + z).toNat.toUInt8).toNat / 64 = 2 := by
    intro z z0 z1
    rw [byteNat _ (by omega) (by omega)]; omega
  unfold Lib.encodeRune at h1 ⊢
  by_cases r1 : r ≤ 127
  · rw [Lib.encodeRuneZ_one hg.1 r1] at h1; simp at h1; omega
  by_cases r2 : r ≤ 2047
  · rw [Lib.encodeRuneZ_two (by omega) r2] at h1 ⊢
    simp at h1
    obtain rfl : k = 1 := by omega
    exact ⟨_, _, rfl, key _ (by omega) (by omega)⟩
  by_cases r3 : r ≤ 65535
  · rw [Lib.encodeRuneZ_three (by omega)] at h1 ⊢
    simp at h1
    obtain rfl | rfl : k = 1 ∨ k = 2 := by omega
    · exact ⟨_, _, rfl, key _ (by omega) (by omega)⟩
    · exact ⟨_, _, rfl, key _ (by omega) (by omega)⟩
  · rw [Lib.encodeRuneZ_four (by omega) (by omega)] at h1 ⊢
    simp at h1
    obtain rfl | rfl | rfl : k = 1 ∨ k = 2 ∨ k = 3 := by omega
    · exact ⟨_, _, rfl, key _ (by omega) (by omega)⟩
    · exact ⟨_, _, rfl, key _ (by omega) (by omega)⟩
    · exact ⟨_, _, rfl, key _ (by omega) (by omega)⟩

end Go.Proofs.YtldhmfkojaekfaaGreatDoor
namespace Go.Proofs.YtldhmfkojaekfaaGreatDoor
open Go
/-- a digit's byte -/
def digB (d : Nat) : UInt8 := if d < 10 then UInt8.ofNat (48 + d) else UInt8.ofNat (87 + d)
/-- the digits of u in base b, the first ahead -/
def digF : Nat → Nat → Nat → List UInt8
  | 0, _, _ => []
  | f + 1, b, u => if u < b then [digB u] else digF f b (u / b) ++ [digB (u % b)]

def ints (l : List UInt8) : List Int := l.map fun b => (b.toNat : Int)
/-- what a byte is worth as a digit to base 16 -/
def hexOf (c : UInt8) : Option Nat := if 48 ≤ c.toNat ∧ c.toNat ≤ 57 then some (c.toNat - 48) else if 97 ≤ c.toNat ∧ c.toNat ≤ 102 then some (c.toNat - 87) else if 65 ≤ c.toNat ∧ c.toNat ≤ 70 then some (c.toNat - 55) else none
def hexVal : List UInt8 → Nat → Option Nat
  | [], n => some n
  | c :: t, n => match hexOf c with
    | none => none
    | some d => hexVal t (n * 16 + d)
theorem hexOf_lt {c : UInt8} {d : Nat} (h : hexOf c = some d) : d < 16 := by
  unfold hexOf at h
  split at h
  · have := Option.some.inj h; omega
  split at h
  · have := Option.some.inj h; omega
  split at h
  · have := Option.some.inj h; omega
  · cases h
theorem hexVal_lt : ∀ (l : List UInt8) (n v : Nat), hexVal l n = some v → v < (n + 1) * 16 ^ l.length
  | [], n, v, h => by
    have := Option.some.inj h
    simp; omega
  | c :: t, n, v, h => by
    unfold hexVal at h
    split at h
    · cases h
    · rename_i d hd
      have h1 := hexVal_lt t _ v h
      have h2 := hexOf_lt hd
      rw [List.length_cons, Nat.pow_succ, Nat.mul_comm (16 ^ t.length) 16, ← Nat.mul_assoc]
      exact Nat.lt_of_lt_of_le h1 (Nat.mul_le_mul_right _ (by omega))
/-- the digits of a small number -/
def hexText (n : Nat) : List UInt8 := digF (n + 1) 16 n
theorem indexByte_bound (c : UInt8) : ∀ (l : List UInt8), -1 ≤ Lib.indexByte l c ∧ Lib.indexByte l c < l.length
  | [] => by simp [Lib.indexByte]
  | b :: l => by
    have ih := indexByte_bound c l
    unfold Lib.indexByte
    rw [List.length_cons]
    split
    · omega
    · split <;> omega
end Go.Proofs.YtldhmfkojaekfaaGreatDoor
namespace Go.Proofs.YtldhmfkojaekfaaGreatDoor
open Go.RowKit Gx
def uOf (s : List UInt8) : Option (Int × Nat) :=
  if Lib.hasPrefix s [117, 123] = true then
    if Lib.indexByte (s.drop 2) 125 < 1 ∨ 6 < Lib.indexByte (s.drop 2) 125 then none
    else match hexVal ((s.drop 2).take (Lib.indexByte (s.drop 2) 125).toNat) 0 with
      | none => none
      | some n => if good (n : Int) = true then some ((n : Int), 3 + (Lib.indexByte (s.drop 2) 125).toNat) else none
  else none
/-- behind a stroke: what it says, and its bytes -/
def escOf (s : List UInt8) : Option (Int × Nat) :=
  match s with
  | [] => none
  | c :: t =>
    if c = 34 ∨ c = 92 ∨ c = 47 then some ((c.toNat : Int), 1)
    else if c = 110 then some (10, 1) else if c = 116 then some (9, 1) else if c = 114 then some (13, 1)
    else uOf (c :: t)
def more (r : Int) (n : Nat) (x : Option (List Int × Nat)) : Option (List Int × Nat) := x.map fun p => (r :: p.1, n + p.2)
/-- what stands behind the first quote -/
def unqF : Nat → List UInt8 → Option (List Int × Nat)
  | 0, _ => none
  | _ + 1, [] => none
  | f + 1, b :: t =>
    if b = 34 then some ([], 1)
    else if b = 10 then none
    else if b = 92 then
      match escOf t with
      | none => none
      | some (r, n) => more r (1 + n) (unqF f (t.drop n))
    else if Lib.decodeL (b :: t) = (65533, 1) then none
    else more ((Lib.decodeL (b :: t)).1 : Int) (Lib.decodeL (b :: t)).2 (unqF f ((b :: t).drop (Lib.decodeL (b :: t)).2))
def unquote (q : List UInt8) : Option (List Int × Nat) :=
  if Lib.hasPrefix q [34] = true then (unqF q.length (q.drop 1)).map fun p => (p.1, p.2 + 1) else none
def quoteR (r : Int) : List UInt8 :=
  if r = 34 ∨ r = 92 then 92 :: Lib.encodeRune r
  else if r = 10 then [92, 110] else if r = 9 then [92, 116] else if r = 13 then [92, 114]
  else if r < 32 ∨ r = 127 then [92, 117, 123] ++ hexText r.natAbs ++ [125]
  else Lib.encodeRune r
def quotes (rs : List Int) : List UInt8 := rs.flatMap quoteR
def quoteOf (rs : List Int) : List UInt8 := 34 :: (quotes rs ++ [34])

theorem uOf_good {s : List UInt8} {r : Int} {n : Nat} (h : uOf s = some (r, n)) : good r = true ∧ 1 ≤ n ∧ n ≤ s.length := by
  unfold uOf at h
  split at h
  · split at h
    · cases h
    · rename_i hk
      split at h
      · cases h
      · split at h
        · rename_i hg
          obtain ⟨rfl, rfl⟩ := Prod.mk.inj (Option.some.inj h)
          have := indexByte_bound 125 (s.drop 2)
          rw [List.length_drop] at this
          exact ⟨hg, by omega, by omega⟩
        · cases h
  · cases h
theorem escOf_good {s : List UInt8} {r : Int} {n : Nat} (h : escOf s = some (r, n)) : good r = true ∧ 1 ≤ n ∧ n ≤ s.length := by
  unfold escOf at h
  split at h
  · cases h
  rename_i c t
  rw [List.length_cons]
  split at h
  · rename_i hc
    obtain ⟨rfl, rfl⟩ := Prod.mk.inj (Option.some.inj h)
    exact ⟨by rcases hc with rfl | rfl | rfl <;> decide, by omega, by omega⟩
  split at h
  · obtain ⟨rfl, rfl⟩ := Prod.mk.inj (Option.some.inj h); exact ⟨by decide, by omega, by omega⟩
  split at h
  · obtain ⟨rfl, rfl⟩ := Prod.mk.inj (Option.some.inj h); exact ⟨by decide, by omega, by omega⟩
  split at h
  · obtain ⟨rfl, rfl⟩ := Prod.mk.inj (Option.some.inj h); exact ⟨by decide, by omega, by omega⟩
  · have := uOf_good h
    rwa [List.length_cons] at this
theorem decode_len (l : List UInt8) (hne : l ≠ []) : (Lib.decodeL l).2 ≤ l.length := by
  rw [Lib.decodeL_N]
  exact Lib.decodeN_width_le _ _ _ _ _ (List.length_pos_iff.2 hne)
end Go.Proofs.YtldhmfkojaekfaaGreatDoor
namespace Go.Proofs.YtldhmfkojaekfaaGreatDoor
open Go.RowKit Gx
def letterB (c : Nat) : Bool := (decide (97 ≤ c) && decide (c ≤ 122)) || (decide (65 ≤ c) && decide (c ≤ 90)) || decide (c = 95)
def moreB (c : Nat) : Bool := (decide (48 ≤ c) && decide (c ≤ 57)) || decide (c = 45)
def bareFrom : Bool → List UInt8 → Bool
  | _, [] => true
  | first, c :: t => (letterB c.toNat || (moreB c.toNat && !first)) && bareFrom false t
def wordB (l : List UInt8) : Bool := (l == [110, 117, 108, 108]) || (l == [116, 114, 117, 101]) || (l == [102, 97, 108, 115, 101]) || (l == [110, 97, 110]) || (l == [105, 110, 102])
/-- is it a bare key? -/
def bareOf (l : List UInt8) : Bool := decide (l ≠ []) && decide (l.length ≤ 100) && bareFrom true l && !wordB l
end Go.Proofs.YtldhmfkojaekfaaGreatDoor
namespace Go.Proofs.YtldhmfkojaekfaaGreatDoor
open Go.RowKit Gx
def digitOf (c : Int) : Int := if 48 ≤ c ∧ c ≤ 57 then c - 48 else if 97 ≤ c ∧ c ≤ 102 then c - 97 + 10 else if 65 ≤ c ∧ c ≤ 70 then c - 65 + 10 else 99
theorem digitOf_le (c : Int) : 0 ≤ digitOf c ∧ digitOf c ≤ 99 := by unfold digitOf; split <;> (try split) <;> (try split) <;> omega

def DigitPost (c : Int) (w : World) (e : Ending) (w' : World) : Prop := e = .returned (.int .u64 (digitOf c)) ∧ w = w'

set_option maxHeartbeats 400000 in
theorem digit_any (c : Int) (w : World) (h0 : 0 ≤ c) (h1 : c < 256) : Calls Tryz.prog 121 #[.int .u8 c] w (DigitPost c w) := by
  by_cases a : 48 ≤ c ∧ c ≤ 57
  · have e : digitOf c = c - 48 := by unfold digitOf; rw [if_pos a]
    obtain ⟨a1, a2⟩ := a
    have E := Lib.hid e
    clear e
    go_enter Tryz.func121, Tryz.ntmps121
    go_wp2
    go_ret
    exact ⟨by rw [E.out]; rfl, rfl⟩
  by_cases b : 97 ≤ c ∧ c ≤ 102
  · have e : digitOf c = c - 97 + 10 := by unfold digitOf; rw [if_neg a, if_pos b]
    obtain ⟨b1, b2⟩ := b
    have E := Lib.hid e
    clear e a
    have a1 : ¬ c ≤ 57 := by omega
    go_enter Tryz.func121, Tryz.ntmps121
    go_wp2
    go_ret
    exact ⟨by rw [E.out]; rfl, rfl⟩
  by_cases d : 65 ≤ c ∧ c ≤ 70
  · have e : digitOf c = c - 65 + 10 := by unfold digitOf; rw [if_neg a, if_neg b, if_pos d]
    obtain ⟨d1, d2⟩ := d
    have E := Lib.hid e
    clear e a b
    have a1 : ¬ c ≤ 57 := by omega
    have a2 : ¬ 97 ≤ c := by omega
    go_enter Tryz.func121, Tryz.ntmps121
    go_wp2
    go_ret
    exact ⟨by rw [E.out]; rfl, rfl⟩
  · have e : digitOf c = 99 := by unfold digitOf; rw [if_neg a, if_neg b, if_neg d]
    have E := Lib.hid e
    clear e
    have c1 : c < 48 ∨ (57 < c ∧ c < 65) ∨ (70 < c ∧ c < 97) ∨ 102 < c := by omega
    clear a b d
    rcases c1 with c1 | ⟨c1, c2⟩ | ⟨c1, c2⟩ | c1
    all_goals
      go_enter Tryz.func121, Tryz.ntmps121
      go_wp2
      go_ret
      exact ⟨by rw [E.out]; rfl, rfl⟩

def TruePostNm (w : World) (e : Ending) (w' : World) : Prop := e = .returned (.bool true) ∧ Below w.heap.size w w'

/-- the base of a numeral, and what stands behind what tells it -/
def baseOf (l : List UInt8) : Nat × List UInt8 :=
  if Lib.hasPrefix l [48, 120] then (16, Lib.trimPrefix l [48, 120]) else if Lib.hasPrefix l [48, 111] then (8, Lib.trimPrefix l [48, 111]) else if Lib.hasPrefix l [48, 98] then (2, Lib.trimPrefix l [48, 98]) else (10, l)

def BasePost (l : List UInt8) (w : World) (e : Ending) (w' : World) : Prop :=
  e = .returned (.tuple #[.int .u64 ((baseOf l).1 : Nat), .string ⟨(baseOf l).2.toArray⟩]) ∧ Below w.heap.size w w'

theorem bytes_ext (s : ByteArray) (x : List UInt8) (h : s.data.toList = x) : s = ⟨x.toArray⟩ := by
  apply ByteArray.ext
  apply Array.toList_inj.1
  simpa using h

set_option maxHeartbeats 2000000 in
theorem base_any (s : ByteArray) (w : World) : Calls Tryz.prog 120 #[.string s] w (BasePost s.data.toList w) := by
  have h1 := fun w => Tryz.strings_CutPrefix s ⟨#[48, 120]⟩ w
  have h2 := fun w => Tryz.strings_CutPrefix s ⟨#[48, 111]⟩ w
  have h3 := fun w => Tryz.strings_CutPrefix s ⟨#[48, 98]⟩ w
  have hx := bytes_ext s _ rfl
  obtain ⟨l, hl⟩ : ∃ l, l = s.data.toList := ⟨_, rfl⟩
  rw [← hl] at hx ⊢
  simp only [← hl] at h1 h2 h3
  have HX := Lib.hid hx
  have H1 := Lib.hid h1
  have H2 := Lib.hid h2
  have H3 := Lib.hid h3
  clear h1 h2 h3 hx hl
  go_enter Tryz.func120, Tryz.ntmps120
  go_wp2_with fail
  refine wp_loop_rounds 4 ?_
  rw [rounds_succ]
  go_wp2_with fail
  refine (H1.out _).mono ?_
  rintro e w' ⟨rfl, rfl⟩
  cases p1 : Lib.hasPrefix l [48, 120] with
  | true =>
    have e : baseOf l = (16, Lib.trimPrefix l [48, 120]) := by unfold baseOf; rw [p1]; rfl
    have E := Lib.hid e
    clear e
    go_wp2
    go_ret2
    exact ⟨by rw [E.out]; rfl, (((Below.refl _ w).alloc (Nat.le_refl _) _).alloc (by simp) _)⟩
  | false =>
    go_wp2_with fail
    rw [rounds_succ]
    go_wp2_with fail
    refine (H2.out _).mono ?_
    rintro e w' ⟨rfl, rfl⟩
    cases p2 : Lib.hasPrefix l [48, 111] with
    | true =>
      have e : baseOf l = (8, Lib.trimPrefix l [48, 111]) := by unfold baseOf; rw [p1, p2]; rfl
      have E := Lib.hid e
      clear e
      go_wp2
      go_ret2
      exact ⟨by rw [E.out]; rfl, ((((Below.refl _ w).alloc (Nat.le_refl _) _).alloc (by simp) _).alloc (by simp; omega) _)⟩
    | false =>
      go_wp2_with fail
      rw [rounds_succ]
      go_wp2_with fail
      refine (H3.out _).mono ?_
      rintro e w' ⟨rfl, rfl⟩
      cases p3 : Lib.hasPrefix l [48, 98] with
      | true =>
        have e : baseOf l = (2, Lib.trimPrefix l [48, 98]) := by unfold baseOf; rw [p1, p2, p3]; rfl
        have E := Lib.hid e
        clear e
        go_wp2
        go_ret2
        exact ⟨by rw [E.out]; rfl, (((((Below.refl _ w).alloc (Nat.le_refl _) _).alloc (by simp) _).alloc (by simp; omega) _).alloc (by simp; omega) _)⟩
      | false =>
        have e : baseOf l = (10, l) := by unfold baseOf; rw [p1, p2, p3]; rfl
        have E := Lib.hid e
        clear e
        go_wp2_with fail
        rw [rounds_succ]
        go_wp2
        go_ret2
        exact ⟨by rw [E.out, HX.out]; rfl, (((((Below.refl _ w).alloc (Nat.le_refl _) _).alloc (by simp) _).alloc (by simp; omega) _).alloc (by simp; omega) _)⟩
end Go.Proofs.YtldhmfkojaekfaaGreatDoor
namespace Go.Proofs.YtldhmfkojaekfaaGreatDoor
open Go.RowKit Gx
def W64 : Nat := 18446744073709551616

/-- one digit more: the number, modulo 2^64, and whether it was too large -/
def numStep (b : Nat) (n : Nat) (o : Int) (d : Int) : Nat × Int :=
  ((((n * b % 18446744073709551616 : Nat) : Int) + d + 0) % 18446744073709551616 |>.toNat,
   bits .or .u64 o (bits .or .u64 ((n * b / 18446744073709551616 : Nat) : Int) ((((n * b % 18446744073709551616 : Nat) : Int) + d + 0) / 18446744073709551616)))

/-- what the bytes of a numeral make: its last byte, the number, whether it was too large; or it is none -/
def numLoop (b : Nat) : List Int → Int → Nat → Int → Option (Int × Nat × Int)
  | [], y, n, o => some (y, n, o)
  | c :: t, y, n, o =>
    if c = 95 then (if y = 95 then none else numLoop b t 95 n o)
    else if (b : Int) ≤ digitOf c then none else numLoop b t c (numStep b n o (digitOf c)).1 (numStep b n o (digitOf c)).2

def limitOf (minus : Bool) : Nat := if minus then 9223372036854775808 else 9223372036854775807
/-- the answer: the number, and the error -/
def readEnd (minus : Bool) : Option (Int × Nat × Int) → Int × Int
  | none => (0, 4)
  | some (y, n, o) => if y = 95 then (0, 4) else if 0 < o ∨ limitOf minus < n then (0, 7) else (if minus then -(n : Int) else n, 0)
def intsNm (l : List UInt8) : List Int := l.map fun b => (b.toNat : Int)
def readBy (minus : Bool) (b : Nat) (r : List UInt8) : Int × Int :=
  if b = 10 ∧ 1 < r.length ∧ r.getD 0 0 = 48 then (0, 4) else readEnd minus (numLoop b (intsNm r) 95 0 0)
def readOf (l : List UInt8) : Int × Int :=
  if 80 < l.length then (0, 2) else readBy (Lib.hasPrefix l [45]) (baseOf (Lib.trimPrefix l [45])).1 (baseOf (Lib.trimPrefix l [45])).2

theorem numStep_lt (b n : Nat) (o d : Int) : (numStep b n o d).1 < 18446744073709551616 := by
  unfold numStep
  simp only
  omega
end Go.Proofs.YtldhmfkojaekfaaGreatDoor
