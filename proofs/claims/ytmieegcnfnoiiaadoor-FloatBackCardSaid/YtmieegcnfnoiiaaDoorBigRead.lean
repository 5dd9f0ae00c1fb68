/-
  The contract of big.Read. No conditions.
-/
import Derived.Test.YtmieegcnfnoiiaaDoorBigText
import Derived.Lib.Strings
namespace Go.Proofs.YtmieegcnfnoiiaaDoor
open Go.RowKit Gx
set_option maxRecDepth 100000

def ReadPost (l : List UInt8) (w : World) (e : Ending) (w' : World) : Prop :=
  (decOk l ∧ l.length ≤ 1000 ∧ ∃ ad cap, e = .returned (.tuple #[.slice ad (canon (decVal l)).length cap, .int .i64 0]) ∧ Rd .u32 w' ad cap (canon (decVal l)) ∧ Below w.heap.size w w') ∨
  (¬ (decOk l ∧ l.length ≤ 1000) ∧ ∃ c : Int, c ≠ 0 ∧ e = .returned (.tuple #[.slice none 0 0, .int .i64 c]) ∧ Below w.heap.size w w')

theorem last_ne (l : List Int) (hw : Words l) (h : 4294967296 ^ (l.length - 1) ≤ bval l) (x : Int) (hx : l.getLast? = some x) : x ≠ 0 := by
  have hne : l ≠ [] := by intro e; subst e; simp at hx
  have e := List.dropLast_concat_getLast hne
  intro h0
  rw [List.getLast?_eq_some_getLast hne] at hx
  have hx' : l.getLast hne = x := by simpa using hx
  rw [hx', h0] at e
  have h1 : bval l = bval l.dropLast := by
    conv => lhs; rw [← e]
    rw [bval_append]; simp [bval]
  have h2 := bval_lt l.dropLast (fun y hy => hw y ((List.dropLast_sublist l).subset hy))
  rw [List.length_dropLast] at h2
  omega

theorem read_digit (c o : Int) (hc : 0 ≤ c) (ho : 0 ≤ o) : ((c + o * 10) % 4294967296).toNat + 4294967296 * ((c + o * 10) / 4294967296).toNat = c.toNat + 10 * o.toNat := by
  obtain ⟨c, rfl⟩ := Int.eq_ofNat_of_zero_le hc
  obtain ⟨o, rfl⟩ := Int.eq_ofNat_of_zero_le ho
  have e1 : ((c : Int) + (o : Int) * 10) = ((c + o * 10 : Nat) : Int) := by omega
  rw [e1, show ((c + o * 10 : Nat) : Int) % 4294967296 = (((c + o * 10) % 4294967296 : Nat) : Int) from rfl, show ((c + o * 10 : Nat) : Int) / 4294967296 = (((c + o * 10) / 4294967296 : Nat) : Int) from rfl]
  simp only [Int.toNat_natCast]
  rw [Nat.mod_add_div, Nat.mul_comm o 10]
theorem read_arith (X Y Z T D q a b c o : Nat) (hs : X + q * o = Y + q * a) (h : Y + q * c = Z + 9 * T + D) (e : a + 4294967296 * b = c + 10 * o) : X + q * 4294967296 * b = Z + 9 * (T + q * o) + D := by
  have e4 : q * a + q * 4294967296 * b = q * c + 10 * (q * o) := by rw [Nat.mul_assoc, ← Nat.mul_add, e, Nat.mul_add, Nat.mul_left_comm]
  omega
theorem read_step (out out0 : List Int) (j q : Nat) (c o d : Int) (hc : 0 ≤ c) (ho : 0 ≤ o) (hj : j < out.length) (eo : o = out.getD j 0) (eo0 : o = out0.getD j 0)
    (h : bval out + 4294967296 ^ j * c.toNat = bval out0 + 9 * bval (out0.take j) + d.toNat) (hq : q = 4294967296 ^ j) :
    bval (out.set j ((c + o * 10) % 4294967296)) + 4294967296 ^ (j + 1) * ((c + o * 10) / 4294967296).toNat = bval out0 + 9 * bval (out0.take (j + 1)) + d.toNat := by
  have hs := bval_set out j ((c + o * 10) % 4294967296) hj
  rw [← eo, ← hq] at hs
  rw [bval_take_succ, ← eo0, Nat.pow_succ, ← hq]
  rw [← hq] at h
  exact read_arith _ _ _ _ _ _ _ _ _ _ hs h (read_digit c o hc ho)

theorem decVal_take (s : List UInt8) (k : Nat) (h : k < s.length) : decVal (s.take (k + 1)) = decVal (s.take k) * 10 + (s[k].toNat - 48) := by
  rw [List.take_succ_eq_append_getElem h, decVal_snoc]

set_option maxHeartbeats 1000000 in
theorem bigRead_long (s : ByteArray) (w : World) (h : 1000 < s.size) :
    Calls Tryd.prog 20 #[.string s] w (ReadPost s.data.toList w) := by
  have ht : decide ((1000 : Int) < (s.size : Int)) = true := by simp; omega
  go_enter Tryd.func20, Tryd.ntmps20
  go_wp2
  go_ret2
  exact .inr ⟨fun ⟨_, h2⟩ => by simp at h2; omega, 2, by decide, rfl, Below.refl _ _⟩

set_option maxHeartbeats 1000000 in
theorem bigRead_empty (w : World) :
    Calls Tryd.prog 20 #[.string ⟨#[]⟩] w (ReadPost [] w) := by
  go_enter Tryd.func20, Tryd.ntmps20
  go_wp2
  go_ret2
  exact .inr ⟨fun ⟨h2, _⟩ => h2.1 rfl, 4, by decide, rfl, Below.refl _ _⟩

theorem head_of (s : ByteArray) (h : 0 < s.size) : s.data.toList.head? = some s[0] := by
  have : 0 < s.data.toList.length := by simpa using h
  rw [List.head?_eq_getElem?, List.getElem?_eq_getElem this]; rfl

set_option maxHeartbeats 1000000 in
theorem bigRead_nought (s : ByteArray) (w : World) (h : 1 < s.size) (h2 : s.size ≤ 1000) (h0 : s[0] = 48) :
    Calls Tryd.prog 20 #[.string s] w (ReadPost s.data.toList w) := by
  have HN : Hid (¬ (decOk s.data.toList ∧ s.data.toList.length ≤ 1000)) := by
    rintro ⟨⟨-, -, h3⟩, -⟩
    have := h3 (by rw [head_of s (by omega), h0])
    simp at this; omega
  have hb0 : ((s[0].toNat : Int) == 48) = true := by rw [h0]; rfl
  go_enter Tryd.func20, Tryd.ntmps20
  go_wp2
  all_goals
    go_ret2
    exact .inr ⟨HN.out, 4, by decide, rfl, Below.refl _ _⟩

theorem read_canon (V d : Nat) (out out2 : List Int) (c : Int) (ho : out = canon V) (hl : out2.length = out.length) (hw : Words out2) (hc : 0 ≤ c) (hc1 : c ≤ 9)
    (h : bval out2 + 4294967296 ^ out.length * c.toNat = bval out + 9 * bval (out.take out.length) + d) :
    (c = 0 → out2 = canon (V * 10 + d)) ∧ (0 < c → out2 ++ [c] = canon (V * 10 + d)) := by
  have hv : bval out = V := by rw [ho, bval_canon]
  rw [List.take_of_length_le (Nat.le_refl _), hv] at h
  constructor
  · intro h0
    subst h0
    simp only [Int.toNat_zero, Nat.mul_zero, Nat.add_zero] at h
    have e : bval out2 = V * 10 + d := by omega
    rw [← e]
    refine (canon_bval out2 hw (fun x hx => ?_)).symm
    have hne : out2 ≠ [] := by intro e; subst e; simp at hx
    have hlen : 0 < out2.length := List.length_pos_iff.2 hne
    refine last_ne out2 hw ?_ x hx
    have hV : V ≠ 0 := by
      intro h0
      rw [ho, h0, canon_zero] at hl
      exact hne (List.eq_nil_of_length_eq_zero hl)
    have h3 := canon_len_gt V hV
    rw [← ho, ← hl] at h3
    omega
  · intro h0
    have e : bval (out2 ++ [c]) = V * 10 + d := by
      rw [bval_append, hl]
      simp only [bval, Nat.mul_zero, Nat.add_zero]
      omega
    rw [← e]
    refine (canon_bval _ ?_ (fun x hx => ?_)).symm
    · intro y hy
      rcases List.mem_append.1 hy with hy | hy
      · exact hw y hy
      · simp at hy; omega
    · simp at hx; omega

set_option maxHeartbeats 4000000 in
theorem bigRead_loop (s : ByteArray) (w : World) (h : 0 < s.size) (h2 : s.size ≤ 1000) (h0 : s[0] = 48 → s.size = 1) :
    Calls Tryd.prog 20 #[.string s] w (ReadPost s.data.toList w) := by
  have HHD : Hid (s.data.toList.head? = some 48 → s.data.toList.length = 1) := by
    intro h3
    rw [head_of s h] at h3
    have := h0 (by simpa using h3)
    simpa using this
  obtain ⟨cap, w1, hconv, -, hsz1, hg, hC⟩ := Gx.conv_bytes_run (P := Tryd.prog) w 9 55 5 s Tryd.underlying9 Tryd.underlying55 Tryd.underlying5
  have hb : Below w.heap.size w w1 := Gx.grown_below hg (Nat.le_refl _) (by simp)
  have HB := Lib.hid hb
  have HC := Lib.hid hC
  have hs1 : w.heap.size + 1 ≤ w1.heap.size := hsz1
  clear hb hC hg hsz1
  have hb0 : (((s[0].toNat : Int) == 48) = false) ∨ ((s[0].toNat : Int) == 48) = true ∧ decide ((1 : Int) < (s.size : Int)) = false := by
    by_cases h3 : s[0] = 48
    · have := h0 h3
      exact .inr ⟨by rw [h3]; rfl, decide_eq_false (by omega)⟩
    · refine .inl ?_
      rw [beq_eq_false_iff_ne]
      intro h4
      apply h3
      apply UInt8.toNat_inj.1
      have : s[0].toNat = 48 := by omega
      rw [this]; rfl
  clear h0
  have hem : s.toList.isEmpty = false := by
    have h3 : s.toList.length = s.size := by rw [Go.Lib.toList_data]; simp
    cases h4 : s.toList with
    | nil => rw [h4] at h3; simp at h3; omega
    | cons => rfl
  have hem2 : ¬ s.toList = [] := by intro h3; rw [h3] at hem; simp at hem
  rcases hb0 with hb0 | ⟨hb0, hb1⟩
  all_goals
    go_enter Tryd.func20, Tryd.ntmps20
    go_wp2
    clear hconv hem hem2
    go_loopw [4, 27] (fun v i wr => ∃ (k : Nat) (out : List Int) (vo : Option Addr) (vc : Nat), k ≤ s.size ∧ i = .int .i64 k ∧ v = .slice vo out.length vc ∧ out.length ≤ k ∧ Hid (out = canon (decVal (s.data.toList.take k))) ∧
        Hid (∀ b ∈ s.data.toList.take k, isDigit b = true) ∧ wr.ownsRow (w.heap.size + 1) 27 1 (.slice vo out.length vc) out.length (out.map (Value.int .u32)) ∧ Below (w.heap.size + 1) w1 wr)
      (fun _ i _ => s.size - (intOf i).toNat)
    case atStart => exact ⟨0, [], none, 0, Nat.zero_le _, rfl, rfl, Nat.le_refl _, rfl, fun b hb => by simp at hb, World.ownsRow_nil _ _ _ _, Below.refl _ _⟩
    case round =>
      obtain ⟨k, out, vo, vc, hk, rfl, rfl, hol, hout, hdig, hown, hbl⟩ := hrel
      have hbs := hbl.size
      have hWB : Hid (Below w.heap.size w wr) := HB.out.trans (hbl.mono (Nat.le_succ _))
      by_cases hlt : k < s.size
      · have hc : wr.cell? ⟨w.heap.size, k, none⟩ = some (.int .u8 (s.data[k].toNat : Int)) := (hbl.cell (p := ⟨w.heap.size, k, none⟩) (Nat.lt_succ_self _)).trans (HC.out k hlt)
        have htk : k < s.data.toList.length := by simpa using hlt
        have eb : s.data.toList[k] = s.data[k] := rfl
        obtain ⟨b, hb⟩ : ∃ b, b = s.data[k] := ⟨_, rfl⟩
        rw [← hb] at hc eb
        have hb255 : (b.toNat : Int) ≤ 255 := by have := b.toNat_lt; omega
        have EB := Lib.hid eb
        clear hb eb
        by_cases hd : isDigit b = true
        · have hd' := hd
          simp [isDigit] at hd'
          have hdl : ¬ (b.toNat : Int) < 48 := by omega
          have hdg : ¬ (57 : Int) < (b.toNat : Int) := by omega
          have hV : Hid (decVal (s.data.toList.take (k + 1)) = decVal (s.data.toList.take k) * 10 + (b.toNat - 48)) := by
            show _ = _
            rw [decVal_take _ _ htk, EB.out]
          have hD2 : Hid (∀ b ∈ s.data.toList.take (k + 1), isDigit b = true) := by
            intro c hcm
            rw [List.take_succ_eq_append_getElem htk] at hcm
            rcases List.mem_append.1 hcm with hcm | hcm
            · exact hdig.out c hcm
            · simp only [List.mem_singleton] at hcm
              rw [hcm, EB.out]; exact hd
          clear hd htk EB
          go_wp2
          go_loopw [7, 42] (fun cv jv wi => ∃ (j : Nat) (c : Int) (out2 : List Int), j ≤ out.length ∧ jv = .int .i64 j ∧ cv = .int .u64 c ∧ 0 ≤ c ∧ c ≤ 9 ∧
              Hid (out2.length = out.length) ∧ Words out2 ∧ Hid (∀ t, j ≤ t → out2.getD t 0 = out.getD t 0) ∧
              Hid (bval out2 + 4294967296 ^ j * c.toNat = bval out + 9 * bval (out.take j) + (b.toNat - 48)) ∧
              wi.ownsRow (w.heap.size + 1) 27 1 (.slice vo out.length vc) out.length (out2.map (Value.int .u32)) ∧ Below (w.heap.size + 1) w1 wi)
            (fun _ jv _ => out.length - (intOf jv).toNat)
          case atStart => exact ⟨0, (b.toNat : Int) - 48, out, Nat.zero_le _, rfl, rfl, by omega, by omega, rfl, by rw [hout.out]; exact canon_words _, fun t _ => rfl, by show _ = _; simp [bval]; omega, hown, hbl⟩
          case round =>
            clear hown hbl hbs hWB hc
            obtain ⟨j, c, out2, hj, rfl, rfl, hc0, hc1, hl2, hw2, hsame, hval, hown2, hb2⟩ := hrel
            have HW2 := Lib.hid hw2
            clear hw2
            have hbs := hb2.size
            by_cases hjl : j < out.length
            · obtain ⟨g, gc, he, hg1, hg2, hg3, -⟩ := Gx.own_cell hown2 (by omega)
              obtain ⟨hvo, hvc⟩ : vo = some ⟨g, 0, none⟩ ∧ vc = gc := by simpa using he
              subst hvo
              clear he hvc hg3
              have hl2' : out2.length = out.length := hl2.out
              have hcell : wr.cell? ⟨g, j, none⟩ = some (.int .u32 (out2.getD j 0)) := by
                rw [hown2.cellAt j (by omega)]
                simp [List.getD, List.getElem?_eq_getElem (show j < out2.length by omega)]
              have hfz : wr.frozen? ⟨g, j, none⟩ = false := hown2.frozenAt j
              obtain ⟨bo0, bo1⟩ := words_getD HW2.out j
              obtain ⟨o, eo⟩ : ∃ o, o = out2.getD j 0 := ⟨_, rfl⟩
              rw [← eo] at hcell bo0 bo1
              have hT := read_step out2 out j _ c o ((b.toNat : Int) - 48) hc0 bo0 (by omega) eo (eo.trans (hsame.out j (Nat.le_refl _))) (by have := hval.out; rw [this]; congr 1; omega) rfl
              have HT : Hid (bval (out2.set j ((c + o * 10) % 4294967296)) + 4294967296 ^ (j + 1) * ((c + o * 10) / 4294967296).toNat = bval out + 9 * bval (out.take (j + 1)) + (b.toNat - 48)) := by
                show _ = _
                rw [hT]; congr 1; omega
              clear eo hT
              have hst := hown2.stored j (.int .u32 ((c + o * 10) % 4294967296))
              have HBN := Lib.hid (hb2.grown hst.2 (Nat.le_trans hs1 hbs) (fun q e => by cases e; exact hg1))
              have HON : Hid ((wr.setCell ⟨g, j, none⟩ (.int .u32 ((c + o * 10) % 4294967296))).ownsRow (w.heap.size + 1) 27 1 (.slice (some ⟨g, 0, none⟩) out.length vc) out.length ((out2.set j ((c + o * 10) % 4294967296)).map (Value.int .u32))) := by
                show World.ownsRow _ _ _ _ _ _ _
                rw [List.map_set]; exact hst.1
              have hw3 := Lib.hid (words_set HW2.out j ((c + o * 10) % 4294967296) (by omega) (by omega))
              have hl3 : Hid ((out2.set j ((c + o * 10) % 4294967296)).length = out.length) := by show _ = _; rw [List.length_set]; exact hl2'
              have hs3 : Hid (∀ t, j + 1 ≤ t → (out2.set j ((c + o * 10) % 4294967296)).getD t 0 = out.getD t 0) := by
                intro t ht
                rw [getD_set_ne _ _ _ _ (by omega)]
                exact hsame.out t (by omega)
              clear hst hown2 hl2' hb2
              go_wp2
              go_roundw
              case rel => exact ⟨j + 1, (c + o * 10) / 4294967296, out2.set j ((c + o * 10) % 4294967296), by omega, by go_num, rfl, by omega, by omega, hl3, hw3.out, hs3, HT, HON.out, HBN.out⟩
              case measure => simp [intOf]; omega
            · obtain rfl : j = out.length := by omega
              have hrc := read_canon _ _ out out2 c hout.out hl2.out HW2.out hc0 hc1 hval.out
              rw [← hV.out] at hrc
              have HRC := Lib.hid hrc
              clear hrc hsame hval hjl
              by_cases hcz : c = 0
              · subst hcz
                have hd0 : decide ((0 : Int) < 0) = false := rfl
                have hl4 : Hid (out2.length = out.length) := hl2
                go_wp2
                go_roundw
                case rel => exact ⟨k + 1, out2, vo, vc, by omega, by go_num, by rw [hl4.out], by rw [hl4.out]; omega, HRC.out.1 rfl, hD2, by rw [hl4.out]; exact hown2, hb2⟩
                case measure => simp [intOf]; omega
              · have hcp : 0 < c := by omega
                have hcp' : decide ((0 : Int) < c) = true := by simpa using hcp
                go_wp2_with (first
                  | (at_builtin; refine Gx.wpList_push wr rfl _ _ 29 rfl (w.heap.size + 1) 27 (.int .u32 0) 1 4 Tryd.underlying29 Tryd.info_u32 rfl (by decide) _ _ _ [.int .u32 c] _ rfl rfl (by exact hown2) rfl rfl ?e2 ?e3 ?e4 ?e5 ?_))
                case e2 => intro u hu; simp at hu; subst hu; rfl
                case e3 => omega
                case e4 => omega
                case e5 => omega
                intro v' w' hown5 hg5 _ _
                have hb5 : Below (w.heap.size + 1) w1 w' := hb2.grown hg5 (Nat.le_trans hs1 hbs) (fun k e => (hown2.lt k e).1)
                obtain ⟨vo5, vc5, rfl⟩ := Gx.own_form hown5
                have hl5 : (out2 ++ [c]).length = out.length + 1 := by simp [hl2.out]
                have hown6 : w'.ownsRow (w.heap.size + 1) 27 1 (.slice vo5 (out2 ++ [c]).length vc5) (out2 ++ [c]).length ((out2 ++ [c]).map (Value.int .u32)) := by
                  rw [hl5, List.map_append]; exact hown5
                have HL5 := Lib.hid hl5
                clear hl5 hown5 hown2 hg5 hb2
                go_wp2
                go_roundw
                case rel => exact ⟨k + 1, out2 ++ [c], vo5, vc5, by omega, by go_num, by rw [HL5.out], by rw [HL5.out]; omega, HRC.out.2 hcp, hD2, hown6, hb5⟩
                case measure => simp [intOf]; omega
        · have HN : Hid (¬ (decOk s.data.toList ∧ s.data.toList.length ≤ 1000)) := by
            rintro ⟨⟨-, h3, -⟩, -⟩
            apply hd
            rw [← EB.out]
            exact h3 _ (List.getElem_mem htk)
          simp [isDigit] at hd
          clear hown
          by_cases hdl : b.toNat < 48
          · have hdl' : decide ((b.toNat : Int) < 48) = true := by simp; omega
            go_wp2
            go_ret2
            exact .inr ⟨HN.out, 4, by decide, rfl, hWB.out⟩
          · have hdl' : decide ((b.toNat : Int) < 48) = false := by simp; omega
            have hdg' : decide ((57 : Int) < (b.toNat : Int)) = true := by simp; omega
            go_wp2
            go_ret2
            exact .inr ⟨HN.out, 4, by decide, rfl, hWB.out⟩
      · obtain rfl : k = s.size := by omega
        have hdig' := hdig.out
        have hout' := hout.out
        rw [List.take_of_length_le (by simp)] at hdig' hout'
        have hnil : s.data.toList ≠ [] := by
          intro h3
          have h4 : s.data.toList.length = s.data.size := Array.length_toList
          have h5 : s.data.size = s.size := rfl
          rw [h3] at h4
          have h6 : 0 = s.data.size := h4
          omega
        have hok : decOk s.data.toList := ⟨hnil, hdig', HHD.out⟩
        have hw : Words out := by rw [hout']; exact canon_words _
        obtain ⟨ad', cap', he, hr⟩ := Gx.Rd.own (k := .u32) (xs := out) hown (wf_words hw)
        obtain ⟨rfl, rfl⟩ : vo = ad' ∧ vc = cap' := by simpa using he
        have HR := Lib.hid hr
        have HO := Lib.hid hout'
        have HOK := Lib.hid hok
        clear hr hout' hok hdig' hown hw he hnil
        go_wp2
        go_ret2
        refine .inl ⟨HOK.out, by simpa using h2, vo, vc, ?_, ?_, hWB.out⟩
        · rw [← HO.out]; rfl
        · rw [← HO.out]; exact HR.out

theorem bigRead_any (s : ByteArray) (w : World) : Calls Tryd.prog 20 #[.string s] w (ReadPost s.data.toList w) := by
  by_cases h1 : 1000 < s.size
  · exact bigRead_long s w h1
  by_cases h0 : s.size = 0
  · obtain ⟨⟨l⟩⟩ := s
    have : l = [] := List.eq_nil_of_length_eq_zero h0
    subst this
    exact bigRead_empty w
  by_cases h2 : s[0] = 48 ∧ 1 < s.size
  · exact bigRead_nought s w h2.2 (by omega) h2.1
  · exact bigRead_loop s w (by omega) (by omega) (fun h3 => by
      have : ¬ 1 < s.size := fun h4 => h2 ⟨h3, h4⟩
      omega)
end Go.Proofs.YtmieegcnfnoiiaaDoor
