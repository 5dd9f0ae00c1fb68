/-
  The contracts of strconv's formatBits at bases 2, 8, 16, and of strconv.FormatInt at base 16. Condition: the table of bits.TrailingZeros64 lies in the world.
-/
import Derived.Test.YtopfkelhgffomaaDoorHexDig
import Derived.Test.YtopfkelhgffomaaDoorProg
import Derived.Test.YtopfkelhgffomaaDoorGx
import Derived.Test.YtopfkelhgffomaaDoorRd
import Derived.WalkLawsBesides
import Derived.Deep.DeepFit
import Derived.Shelf.Unicode.PredsPay
import Derived.Lib.ItoaNum
import Derived.Laws.Externs
namespace Go.Proofs.YtopfkelhgffomaaDoor
open Go.RowKit Gx

/-- of the table what is read here -/
def BTab (w : World) : Prop := w.cell? ⟨7, 1, none⟩ = some (.int .u8 1) ∧ w.cell? ⟨7, 7, none⟩ = some (.int .u8 3) ∧ w.cell? ⟨7, 15, none⟩ = some (.int .u8 4)
theorem BTab.keep {w w' : World} (h : BTab w) (hb : Below w.heap.size w w') : BTab w' := by
  obtain ⟨h1, h2, h3⟩ := h
  have k : ∀ (p : Addr) (v : Value), w.cell? p = some v → w'.cell? p = some v := by
    intro p v hp
    exact (hb.cell (World.block_lt_of_cell? w p hp)).trans hp
  exact ⟨k _ _ h1, k _ _ h2, k _ _ h3⟩

def lgOf (b : Nat) : Nat := if b = 2 then 1 else if b = 8 then 3 else 4

set_option maxHeartbeats 1000000 in
theorem zeros_any (b : Nat) (hb : b = 2 ∨ b = 8 ∨ b = 16) (w : World) (hT : BTab w) : Calls Tryd.prog 73 #[.int .u64 b] w fun e w' => e = .returned (.int .i64 (lgOf b : Nat)) ∧ w = w' := by
  obtain ⟨h1, h2, h3⟩ := hT
  rcases hb with rfl | rfl | rfl
  · have e : IntKind.u64.wrap (bits BinOp.and IntKind.u64 2 (IntKind.u64.wrap (-2)) * 285870213051353865) / 288230376151711744 = 1 := by decide +kernel
    go_enter Tryd.func73, Tryd.ntmps73
    go_wp2
    go_ret
    exact ⟨rfl, rfl⟩
  · have e : IntKind.u64.wrap (bits BinOp.and IntKind.u64 8 (IntKind.u64.wrap (-8)) * 285870213051353865) / 288230376151711744 = 7 := by decide +kernel
    go_enter Tryd.func73, Tryd.ntmps73
    go_wp2
    go_ret
    exact ⟨rfl, rfl⟩
  · have e : IntKind.u64.wrap (bits BinOp.and IntKind.u64 16 (IntKind.u64.wrap (-16)) * 285870213051353865) / 288230376151711744 = 15 := by decide +kernel
    go_enter Tryd.func73, Tryd.ntmps73
    go_wp2
    go_ret
    exact ⟨rfl, rfl⟩

set_option maxHeartbeats 400000 in
theorem isPow_any (b : Nat) (hb : b = 2 ∨ b = 8 ∨ b = 16) (w : World) : Calls Tryd.prog 72 #[.int .i64 b] w fun e w' => e = .returned (.bool true) ∧ w = w' := by
  rcases hb with rfl | rfl | rfl
  · have e : bits BinOp.and IntKind.i64 2 1 = 0 := by decide +kernel
    go_enter Tryd.func72, Tryd.ntmps72
    go_wp2
    go_ret
    exact ⟨rfl, rfl⟩
  · have e : bits BinOp.and IntKind.i64 8 7 = 0 := by decide +kernel
    go_enter Tryd.func72, Tryd.ntmps72
    go_wp2
    go_ret
    exact ⟨rfl, rfl⟩
  · have e : bits BinOp.and IntKind.i64 16 15 = 0 := by decide +kernel
    go_enter Tryd.func72, Tryd.ntmps72
    go_wp2
    go_ret
    exact ⟨rfl, rfl⟩

def BitsPost (x : List UInt8) (w : World) (e : Ending) (w' : World) : Prop := e = .returned (.tuple #[.slice none 0 0, .string ⟨x.toArray⟩]) ∧ Below w.heap.size w w'

theorem digF_fuel (b : Nat) (hb : 2 ≤ b) : ∀ (f g u : Nat), u < f → u < g → digF f b u = digF g b u
  | 0, _, u, h, _ => by omega
  | _, 0, u, _, h => by omega
  | f + 1, g + 1, u, h1, h2 => by
    unfold digF
    by_cases hu : u < b
    · rw [if_pos hu, if_pos hu]
    · have : u / b < u := Nat.div_lt_self (by omega) (by omega)
      rw [if_neg hu, if_neg hu, digF_fuel b hb f g (u / b) (by omega) (by omega)]
theorem dig_big (b v : Nat) (hb : 2 ≤ b) (h : b ≤ v) : digF (v + 1) b v = digF (v / b + 1) b (v / b) ++ [digB (v % b)] := by
  have h2 : v / b < v := Nat.div_lt_self (by omega) (by omega)
  conv => lhs; unfold digF
  rw [if_neg (by omega), digF_fuel b hb v (v / b + 1) (v / b) h2 (by omega)]
theorem dig_small (b v : Nat) (h : v < b) : digF (v + 1) b v = [digB v] := by
  unfold digF; rw [if_pos h]
theorem room (b v i u0 : Nat) (hb : 2 ≤ b) (hv : 1 ≤ v) (hi : i ≤ 65) (hu : u0 ≤ 9223372036854775808) (h : v * b ^ (65 - i) ≤ u0) : 2 ≤ i := by
  rcases Nat.lt_or_ge i 2 with hlt | hge
  · exfalso
    have h1 : 2 ^ (65 - i) ≤ b ^ (65 - i) := Nat.pow_le_pow_left hb _
    have h2 : (2 : Nat) ^ 64 ≤ 2 ^ (65 - i) := Nat.pow_le_pow_right (by decide) (by omega)
    have h3 : 1 * b ^ (65 - i) ≤ v * b ^ (65 - i) := Nat.mul_le_mul_right _ hv
    have h4 : (2 : Nat) ^ 64 = 18446744073709551616 := by decide
    omega
  · exact hge
theorem room_next (b v i u0 : Nat) (hi : 1 ≤ i) (hi2 : i ≤ 65) (h : v * b ^ (65 - i) ≤ u0) : v / b * b ^ (65 - (i - 1)) ≤ u0 := by
  rw [show 65 - (i - 1) = 65 - i + 1 by omega, Nat.pow_succ, Nat.mul_comm (b ^ (65 - i)) b, ← Nat.mul_assoc]
  exact Nat.le_trans (Nat.mul_le_mul_right _ (Nat.div_mul_le_self v b)) h
theorem mask (b : Nat) (hb : b = 2 ∨ b = 8 ∨ b = 16) (v : Nat) (hv : v < 18446744073709551616) : bits BinOp.and IntKind.u64 (v : Int) ((b : Int) - 1) = ((v % b : Nat) : Int) := by
  have h64 : ∀ n : Int, 0 ≤ n → n < 2 ^ 64 → IntKind.u64.wrap n = n := by
    intro n h0 h1
    have : (2 : Int) ^ 64 = 18446744073709551616 := by decide
    rw [IntKind.wrap_u64]; omega
  have e64 : (2 : Int) ^ 64 = 18446744073709551616 := by decide
  rcases hb with rfl | rfl | rfl
  · have h := bits_mask .u64 64 (by decide) h64 1 (by decide) (v : Int) (by omega) (by rw [e64]; omega)
    rw [show ((2 : Int) ^ 1 - 1) = ((2 : Nat) : Int) - 1 by decide] at h
    rw [h]; simp
  · have h := bits_mask .u64 64 (by decide) h64 3 (by decide) (v : Int) (by omega) (by rw [e64]; omega)
    rw [show ((2 : Int) ^ 3 - 1) = ((8 : Nat) : Int) - 1 by decide] at h
    rw [h]; simp
  · have h := bits_mask .u64 64 (by decide) h64 4 (by decide) (v : Int) (by omega) (by rw [e64]; omega)
    rw [show ((2 : Int) ^ 4 - 1) = ((16 : Nat) : Int) - 1 by decide] at h
    rw [h]; simp
def digitsText : ByteArray := ⟨#[48, 49, 50, 51, 52, 53, 54, 55, 56, 57, 97, 98, 99, 100, 101, 102, 103, 104, 105, 106, 107, 108, 109, 110, 111, 112, 113, 114, 115, 116, 117, 118, 119, 120, 121, 122]⟩
theorem digits_at (d : Nat) (h : d < 16) (h2 : d < digitsText.size) : digitsText[d]'h2 = digB d := by
  have key : ∀ e : Fin 16, digitsText[e.val]! = digB e.val := by decide +kernel
  have := key ⟨d, h⟩
  rw [← this]
  exact (getElem!_pos digitsText d h2).symm

theorem zero65 (w : World) : (zeroValue 109).run Tryd.prog w = .ok (.agg (Array.replicate 65 (Value.int .u8 0))) w := by kernel_rfl

theorem slice65 (A j : Nat) (hj : j < 65) (l : Int) (hl : l = (j : Int)) (w : World) :
    (Instr.sliceAt 109 (.pointer (some ⟨A, 0, none⟩)) (some (.int .i64 l)) none none).run Tryd.prog w = .ok (.slice (some ⟨A, j, none⟩) (65 - j) (65 - j)) w := by
  have ht : Tryd.prog.underlying 109 = some (.array (Tryd.prog.arrayLen 109) (Tryd.prog.elem 109)) := by kernel_rfl
  have e1 : Tryd.prog.arrayLen 109 = 65 := by kernel_rfl
  have e2 : Tryd.prog.elem 109 = 5 := by kernel_rfl
  rw [run_sliceAt_array_l w 109 ⟨A, 0, none⟩ ht .i64 l (by omega) (by rw [e1]; omega), e2, Tryd.sizeOf5]
  have h1 : l.toNat = j := by omega
  have h2 : ¬ (65 = j) := by omega
  simp [Result.andThen, slicedAt, e1, h1, h2, Addr.add]
  intro h; exact h.symm

theorem own_array (w : World) : (w.alloc (Obj.cells (Array.replicate 65 (Value.int .u8 0)) 109)).ownsRow w.heap.size 109 1 (.slice (some ⟨w.heap.size, 0, none⟩) 65 65) 65 ((List.replicate 65 (0 : Int)).map (Value.int .u8)) := by
  refine ⟨by simp, .inr ⟨w.heap.size, 65, _, rfl, Nat.le_refl _, heap_alloc_new w _, Nat.le_refl _, by decide, by simp, ?_⟩⟩
  simp

set_option maxRecDepth 4000 in
set_option maxHeartbeats 4000000 in
theorem formatBits_any (b : Nat) (hb : b = 2 ∨ b = 8 ∨ b = 16) (u0 : Nat) (hu : u0 ≤ 9223372036854775808) (neg : Bool) (U : Int) (hU0 : neg = false → U = u0) (hU1 : neg = true → IntKind.u64.wrap (-U) = u0) (w : World) (hT : BTab w) :
    Calls Tryd.prog 60 #[.slice none 0 0, .int .u64 U, .int .i64 b, .bool neg, .bool false] w (BitsPost ((if neg then [45] else []) ++ digF (u0 + 1) b u0) w) := by
  have HZ := Lib.hid (fun w h => zeros_any b hb w h)
  have HP := Lib.hid (fun w => isPow_any b hb w)
  have HT := Lib.hid hT
  have hb2 : 2 ≤ b := by omega
  have hb16 : b ≤ 16 := by omega
  have t1 : ((b : Int) == 10) = false := by rcases hb with rfl | rfl | rfl <;> rfl
  have t2 : decide ((b : Int) < 2) = false := decide_eq_false (by omega)
  have t3 : decide ((36 : Int) < (b : Int)) = false := decide_eq_false (by omega)
  have HB := Lib.hid hb
  clear hT hb
  have hz65 := zero65
  have hown := own_array w
  have hb0 : Below w.heap.size w (w.alloc (Obj.cells (Array.replicate 65 (Value.int .u8 0)) 109)) := (Below.refl _ w).alloc (Nat.le_refl _) _
  obtain ⟨w1, hw1⟩ : ∃ w1, w1 = w.alloc (Obj.cells (Array.replicate 65 (Value.int .u8 0)) 109) := ⟨_, rfl⟩
  rw [← hw1] at hown hb0
  have HW1 := Lib.hid hw1
  have hl1 : IntKind.u64.wrap ((lgOf b : Nat) : Int) = ((lgOf b : Nat) : Int) := by
    unfold lgOf
    split
    · rfl
    · split <;> rfl
  obtain ⟨sh, hsh⟩ : ∃ sh, sh = lgOf b := ⟨_, rfl⟩
  rw [← hsh] at hl1 HZ
  have hsh4 : sh ≤ 4 := by rw [hsh]; unfold lgOf; split <;> (try split) <;> omega
  have hpow : 2 ^ sh = b := by rw [hsh]; rcases HB.out with rfl | rfl | rfl <;> rfl
  have HPOW := Lib.hid hpow
  clear hw1 hsh hpow
  cases neg with
  | false =>
    obtain rfl := hU0 rfl
    go_enter Tryd.func60, Tryd.ntmps60
    go_wp2_with fail
    rw [← HW1.out]
    refine (HP.out w1).mono ?_
    rintro e w2 ⟨rfl, rfl⟩
    go_wp2_with fail
    refine (HZ.out w1 (HT.out.keep hb0)).mono ?_
    rintro e w2 ⟨rfl, rfl⟩
    go_wp2_with fail
    go_loopw [1, 13] (fun uv iv wr => ∃ (v i : Nat) (cur : List Int), uv = .int .u64 v ∧ iv = .int .i64 i ∧ v ≤ u0 ∧ Hid (cur.length = 65) ∧ i ≤ 65 ∧ Hid (v * b ^ (65 - i) ≤ u0) ∧ Hid (v = 0 → i = 65) ∧
        wr.ownsRow w.heap.size 109 1 (.slice (some ⟨w.heap.size, 0, none⟩) 65 65) 65 (cur.map (Value.int .u8)) ∧ Hid (ints (digF (v + 1) b v) ++ cur.drop i = ints (digF (u0 + 1) b u0)) ∧ Below w.heap.size w wr)
      (fun uv _ _ => (intOf uv).toNat)
    case atStart => exact ⟨u0, 65, List.replicate 65 0, rfl, rfl, Nat.le_refl _, by simp [Hid], Nat.le_refl _, by show _ ≤ _; simp, fun _ => rfl, hown, by show _ = _; simp, hb0⟩
    case round =>
      clear hown hb0
      obtain ⟨v, i, cur, rfl, rfl, hv, hcl, hi, hpw, hvz, hown, hdig, hb1⟩ := hrel
      have hsz := hb1.size
      have hi2 : 2 ≤ i := by
        by_cases h0 : v = 0
        · have := hvz.out h0; omega
        · exact room b v i u0 hb2 (by omega) hi hu hpw.out
      have hcl' : cur.length = 65 := hcl.out
      have hcell : ∀ j, j < 65 → ∃ y, wr.cell? ⟨w.heap.size, j, none⟩ = some (.int .u8 y) := by
        intro j hj
        refine ⟨cur[j], ?_⟩
        rw [hown.cellAt j (by omega)]
        simp [List.getElem?_eq_getElem (show j < cur.length by omega)]
      have hj1 : ((i : Int) - 1).toNat = i - 1 := by omega
      have hj2 : (0 : Int) ≤ (i : Int) - 1 := by omega
      have hj3 : (i : Int) - 1 < 65 := by omega
      obtain ⟨y1, hc1⟩ := hcell (i - 1) (by omega)
      have hfz : wr.frozen? ⟨w.heap.size, i - 1, none⟩ = false := hown.frozenAt (i - 1)
      by_cases hvb : b ≤ v
      · have hmk := mask b HB.out v (by omega)
        have hmod : v % b < b := Nat.mod_lt _ (by omega)
        have hdivlt : v / b < v := Nat.div_lt_self (by omega) (by omega)
        have hdivpos : 1 ≤ v / b := (Nat.le_div_iff_mul_le (by omega)).2 (by omega)
        have hshr : (v : Int) / 2 ^ sh = ((v / b : Nat) : Int) := by
          rw [← HPOW.out, Int.natCast_ediv, Int.natCast_pow]; rfl
        have hrn := room_next b v i u0 (by omega) hi hpw.out
        have hdg := hdig.out
        rw [dig_big b v hb2 hvb, ints_append, List.append_assoc] at hdg
        obtain ⟨d, hd⟩ : ∃ d, d = v % b := ⟨_, rfl⟩
        obtain ⟨q, hq⟩ : ∃ q, q = v / b := ⟨_, rfl⟩
        rw [← hd] at hmk hdg hmod
        rw [← hq] at hshr hrn hdg hdivlt hdivpos
        have hd16 : d < 16 := by omega
        have hdt : ∀ h : d < digitsText.size, (digitsText[d]'h).toNat = (digB d).toNat := fun h => by rw [digits_at d hd16 h]
        unfold digitsText at hdt
        obtain ⟨x, hx⟩ : ∃ x : Nat, x = (digB d).toNat := ⟨_, rfl⟩
        have hxi : ints [digB d] = [(x : Int)] := by rw [hx]; rfl
        rw [hxi] at hdg
        rw [← hx] at hdt
        have hx256 : x < 256 := by rw [hx]; exact UInt8.toNat_lt _
        have hst := hown.stored (i - 1) (.int .u8 (x : Int))
        have hon : (wr.setCell ⟨w.heap.size, i - 1, none⟩ (.int .u8 (x : Int))).ownsRow w.heap.size 109 1 (.slice (some ⟨w.heap.size, 0, none⟩) 65 65) 65 ((cur.set (i - 1) (x : Int)).map (Value.int .u8)) := by
          rw [List.map_set]; exact hst.1
        have hbn : Below w.heap.size w (wr.setCell ⟨w.heap.size, i - 1, none⟩ (.int .u8 (x : Int))) := hb1.grown hst.2 hsz (fun q e => by cases e; exact Nat.le_refl _)
        have hdn : Hid (ints (digF (q + 1) b q) ++ (cur.set (i - 1) (x : Int)).drop (i - 1) = ints (digF (u0 + 1) b u0)) := by
          show _ = _
          rw [← hdg, List.drop_eq_getElem_cons (show i - 1 < (cur.set (i - 1) (x : Int)).length by rw [List.length_set]; omega), List.getElem_set_self, List.drop_set_of_lt (by omega), show i - 1 + 1 = i by omega]
          rfl
        have hln : Hid ((cur.set (i - 1) (x : Int)).length = 65) := by show _ = _; rw [List.length_set]; exact hcl'
        have HON := Lib.hid hon
        have HBN := Lib.hid hbn
        have HRN := Lib.hid hrn
        have hvbd : decide ((b : Int) ≤ (v : Int)) = true := decide_eq_true (by omega)
        have hqz : Hid (q = 0 → i - 1 = 65) := fun h => by omega
        clear hd hq hx hxi hdg hst hon hbn hown hcell hcl' hrn
        go_wp2_with fail
        go_roundw
        case rel => exact ⟨q, i - 1, cur.set (i - 1) (x : Int), rfl, by congr 1 <;> omega, by omega, hln, by omega, HRN.out, hqz, HON.out, hdn, HBN.out⟩
        case measure => simp [intOf]; omega
      · have hvlt : v < b := by omega
        have hvbd : decide ((b : Int) ≤ (v : Int)) = false := decide_eq_false (by omega)
        have hdg := hdig.out
        rw [dig_small b v hvlt] at hdg
        have hd16 : v < 16 := by omega
        have hdt : ∀ h : v < digitsText.size, (digitsText[v]'h).toNat = (digB v).toNat := fun h => by rw [digits_at v hd16 h]
        unfold digitsText at hdt
        obtain ⟨x, hx⟩ : ∃ x : Nat, x = (digB v).toNat := ⟨_, rfl⟩
        have hxi : ints [digB v] = [(x : Int)] := by rw [hx]; rfl
        rw [hxi] at hdg
        rw [← hx] at hdt
        obtain ⟨D, hD⟩ : ∃ D, D = digF (u0 + 1) b u0 := ⟨_, rfl⟩
        rw [← hD] at hdg
        have HDD := Lib.hid hD
        have hst := hown.stored (i - 1) (.int .u8 (x : Int))
        have hon : (wr.setCell ⟨w.heap.size, i - 1, none⟩ (.int .u8 (x : Int))).ownsRow w.heap.size 109 1 (.slice (some ⟨w.heap.size, 0, none⟩) 65 65) 65 ((cur.set (i - 1) (x : Int)).map (Value.int .u8)) := by
          rw [List.map_set]; exact hst.1
        have hbn : Below w.heap.size w (wr.setCell ⟨w.heap.size, i - 1, none⟩ (.int .u8 (x : Int))) := hb1.grown hst.2 hsz (fun q e => by cases e; exact Nat.le_refl _)
        have hdrop : (cur.set (i - 1) (x : Int)).drop (i - 1) = ints D := by
          rw [← hdg, List.drop_eq_getElem_cons (show i - 1 < (cur.set (i - 1) (x : Int)).length by rw [List.length_set]; omega), List.getElem_set_self, List.drop_set_of_lt (by omega), show i - 1 + 1 = i by omega]
          rfl
        have hDl : D.length = 65 - (i - 1) := by
          have := congrArg List.length hdrop
          unfold ints at this
          rw [List.length_drop, List.length_set, List.length_map, hcl'] at this
          omega
        have hlen2 : (cur.set (i - 1) (x : Int)).length = 65 := by rw [List.length_set]; exact hcl'
        obtain ⟨cur2, hcur2⟩ : ∃ c, c = cur.set (i - 1) (x : Int) := ⟨_, rfl⟩
        rw [← hcur2] at hon hdrop hlen2
        obtain ⟨wz, hwz⟩ : ∃ wz, wz = wr.setCell ⟨w.heap.size, i - 1, none⟩ (.int .u8 (x : Int)) := ⟨_, rfl⟩
        rw [← hwz] at hon hbn
        have hby : ∀ j (hj : j < D.length), wz.cell? ((⟨w.heap.size, i - 1, none⟩ : Addr).add j) = some (.int .u8 (D[j].toNat : Int)) := by
          intro j hj
          rw [Addr.add_lit, hon.cellAt (i - 1 + j) (by omega), List.getElem?_map]
          have h2 : cur2[i - 1 + j]? = some ((D[j].toNat : Nat) : Int) := by
            rw [← List.getElem?_drop, hdrop]
            unfold ints
            rw [List.getElem?_map, List.getElem?_eq_getElem hj]; rfl
          rw [h2]; rfl
        have hcv := run_convert_bytes_back (P := Tryd.prog) wz 57 9 5 ⟨w.heap.size, i - 1, none⟩ (65 - (i - 1)) D Tryd.underlying57 Tryd.underlying5 Tryd.underlying9 hby
        rw [hDl] at hcv
        rw [hwz] at hcv
        have hsl := slice65 w.heap.size (i - 1) (by omega) ((i : Int) - 1) (by omega)
        have HBN := Lib.hid hbn
        have HWZ := Lib.hid hwz
        clear hD hx hxi hdg hst hon hown hcell hdrop hDl hlen2 hcur2 hby hwz hbn hcl'
        go_wp2_with fail
        go_ret2
        refine ⟨by rw [← HDD.out]; rfl, ?_⟩
        rw [← HWZ.out]; exact HBN.out
  | true =>
    have hw := hU1 rfl
    go_enter Tryd.func60, Tryd.ntmps60
    go_wp2_with fail
    rw [← HW1.out]
    refine (HP.out w1).mono ?_
    rintro e w2 ⟨rfl, rfl⟩
    go_wp2_with fail
    refine (HZ.out w1 (HT.out.keep hb0)).mono ?_
    rintro e w2 ⟨rfl, rfl⟩
    go_wp2_with fail
    go_loopw [1, 13] (fun uv iv wr => ∃ (v i : Nat) (cur : List Int), uv = .int .u64 v ∧ iv = .int .i64 i ∧ v ≤ u0 ∧ Hid (cur.length = 65) ∧ i ≤ 65 ∧ Hid (v * b ^ (65 - i) ≤ u0) ∧ Hid (v = 0 → i = 65) ∧
        wr.ownsRow w.heap.size 109 1 (.slice (some ⟨w.heap.size, 0, none⟩) 65 65) 65 (cur.map (Value.int .u8)) ∧ Hid (ints (digF (v + 1) b v) ++ cur.drop i = ints (digF (u0 + 1) b u0)) ∧ Below w.heap.size w wr)
      (fun uv _ _ => (intOf uv).toNat)
    case atStart => exact ⟨u0, 65, List.replicate 65 0, rfl, rfl, Nat.le_refl _, by simp [Hid], Nat.le_refl _, by show _ ≤ _; simp, fun _ => rfl, hown, by show _ = _; simp, hb0⟩
    case round =>
      clear hown hb0
      obtain ⟨v, i, cur, rfl, rfl, hv, hcl, hi, hpw, hvz, hown, hdig, hb1⟩ := hrel
      have hsz := hb1.size
      have hi2 : 2 ≤ i := by
        by_cases h0 : v = 0
        · have := hvz.out h0; omega
        · exact room b v i u0 hb2 (by omega) hi hu hpw.out
      have hcl' : cur.length = 65 := hcl.out
      have hcell : ∀ j, j < 65 → ∃ y, wr.cell? ⟨w.heap.size, j, none⟩ = some (.int .u8 y) := by
        intro j hj
        refine ⟨cur[j], ?_⟩
        rw [hown.cellAt j (by omega)]
        simp [List.getElem?_eq_getElem (show j < cur.length by omega)]
      have hj1 : ((i : Int) - 1).toNat = i - 1 := by omega
      have hj2 : (0 : Int) ≤ (i : Int) - 1 := by omega
      have hj3 : (i : Int) - 1 < 65 := by omega
      obtain ⟨y1, hc1⟩ := hcell (i - 1) (by omega)
      have hfz : wr.frozen? ⟨w.heap.size, i - 1, none⟩ = false := hown.frozenAt (i - 1)
      by_cases hvb : b ≤ v
      · have hmk := mask b HB.out v (by omega)
        have hmod : v % b < b := Nat.mod_lt _ (by omega)
        have hdivlt : v / b < v := Nat.div_lt_self (by omega) (by omega)
        have hdivpos : 1 ≤ v / b := (Nat.le_div_iff_mul_le (by omega)).2 (by omega)
        have hshr : (v : Int) / 2 ^ sh = ((v / b : Nat) : Int) := by
          rw [← HPOW.out, Int.natCast_ediv, Int.natCast_pow]; rfl
        have hrn := room_next b v i u0 (by omega) hi hpw.out
        have hdg := hdig.out
        rw [dig_big b v hb2 hvb, ints_append, List.append_assoc] at hdg
        obtain ⟨d, hd⟩ : ∃ d, d = v % b := ⟨_, rfl⟩
        obtain ⟨q, hq⟩ : ∃ q, q = v / b := ⟨_, rfl⟩
        rw [← hd] at hmk hdg hmod
        rw [← hq] at hshr hrn hdg hdivlt hdivpos
        have hd16 : d < 16 := by omega
        have hdt : ∀ h : d < digitsText.size, (digitsText[d]'h).toNat = (digB d).toNat := fun h => by rw [digits_at d hd16 h]
        unfold digitsText at hdt
        obtain ⟨x, hx⟩ : ∃ x : Nat, x = (digB d).toNat := ⟨_, rfl⟩
        have hxi : ints [digB d] = [(x : Int)] := by rw [hx]; rfl
        rw [hxi] at hdg
        rw [← hx] at hdt
        have hx256 : x < 256 := by rw [hx]; exact UInt8.toNat_lt _
        have hst := hown.stored (i - 1) (.int .u8 (x : Int))
        have hon : (wr.setCell ⟨w.heap.size, i - 1, none⟩ (.int .u8 (x : Int))).ownsRow w.heap.size 109 1 (.slice (some ⟨w.heap.size, 0, none⟩) 65 65) 65 ((cur.set (i - 1) (x : Int)).map (Value.int .u8)) := by
          rw [List.map_set]; exact hst.1
        have hbn : Below w.heap.size w (wr.setCell ⟨w.heap.size, i - 1, none⟩ (.int .u8 (x : Int))) := hb1.grown hst.2 hsz (fun q e => by cases e; exact Nat.le_refl _)
        have hdn : Hid (ints (digF (q + 1) b q) ++ (cur.set (i - 1) (x : Int)).drop (i - 1) = ints (digF (u0 + 1) b u0)) := by
          show _ = _
          rw [← hdg, List.drop_eq_getElem_cons (show i - 1 < (cur.set (i - 1) (x : Int)).length by rw [List.length_set]; omega), List.getElem_set_self, List.drop_set_of_lt (by omega), show i - 1 + 1 = i by omega]
          rfl
        have hln : Hid ((cur.set (i - 1) (x : Int)).length = 65) := by show _ = _; rw [List.length_set]; exact hcl'
        have HON := Lib.hid hon
        have HBN := Lib.hid hbn
        have HRN := Lib.hid hrn
        have hvbd : decide ((b : Int) ≤ (v : Int)) = true := decide_eq_true (by omega)
        have hqz : Hid (q = 0 → i - 1 = 65) := fun h => by omega
        clear hd hq hx hxi hdg hst hon hbn hown hcell hcl' hrn
        go_wp2_with fail
        go_roundw
        case rel => exact ⟨q, i - 1, cur.set (i - 1) (x : Int), rfl, by congr 1 <;> omega, by omega, hln, by omega, HRN.out, hqz, HON.out, hdn, HBN.out⟩
        case measure => simp [intOf]; omega
      · have hvlt : v < b := by omega
        have hvbd : decide ((b : Int) ≤ (v : Int)) = false := decide_eq_false (by omega)
        have hdg := hdig.out
        rw [dig_small b v hvlt] at hdg
        have hd16 : v < 16 := by omega
        have hdt : ∀ h : v < digitsText.size, (digitsText[v]'h).toNat = (digB v).toNat := fun h => by rw [digits_at v hd16 h]
        unfold digitsText at hdt
        obtain ⟨x, hx⟩ : ∃ x : Nat, x = (digB v).toNat := ⟨_, rfl⟩
        have hxi : ints [digB v] = [(x : Int)] := by rw [hx]; rfl
        rw [hxi] at hdg
        rw [← hx] at hdt
        obtain ⟨D, hD⟩ : ∃ D, D = digF (u0 + 1) b u0 := ⟨_, rfl⟩
        rw [← hD] at hdg
        have HDD := Lib.hid hD
        have hst := hown.stored (i - 1) (.int .u8 (x : Int))
        have hon : (wr.setCell ⟨w.heap.size, i - 1, none⟩ (.int .u8 (x : Int))).ownsRow w.heap.size 109 1 (.slice (some ⟨w.heap.size, 0, none⟩) 65 65) 65 ((cur.set (i - 1) (x : Int)).map (Value.int .u8)) := by
          rw [List.map_set]; exact hst.1
        have hbn : Below w.heap.size w (wr.setCell ⟨w.heap.size, i - 1, none⟩ (.int .u8 (x : Int))) := hb1.grown hst.2 hsz (fun q e => by cases e; exact Nat.le_refl _)
        have hdrop : (cur.set (i - 1) (x : Int)).drop (i - 1) = ints D := by
          rw [← hdg, List.drop_eq_getElem_cons (show i - 1 < (cur.set (i - 1) (x : Int)).length by rw [List.length_set]; omega), List.getElem_set_self, List.drop_set_of_lt (by omega), show i - 1 + 1 = i by omega]
          rfl
        have hDl : D.length = 65 - (i - 1) := by
          have := congrArg List.length hdrop
          unfold ints at this
          rw [List.length_drop, List.length_set, List.length_map, hcl'] at this
          omega
        have hlen2 : (cur.set (i - 1) (x : Int)).length = 65 := by rw [List.length_set]; exact hcl'
        obtain ⟨cur2, hcur2⟩ : ∃ c, c = cur.set (i - 1) (x : Int) := ⟨_, rfl⟩
        rw [← hcur2] at hon hdrop hlen2
        obtain ⟨wz, hwz⟩ : ∃ wz, wz = wr.setCell ⟨w.heap.size, i - 1, none⟩ (.int .u8 (x : Int)) := ⟨_, rfl⟩
        rw [← hwz] at hon hbn
        have hj1b : ((i : Int) - 1 - 1).toNat = i - 2 := by omega
        have hj2b : (0 : Int) ≤ (i : Int) - 1 - 1 := by omega
        have hj3b : (i : Int) - 1 - 1 < 65 := by omega
        have hc2 : ∃ y, wz.cell? ⟨w.heap.size, i - 2, none⟩ = some (.int .u8 y) := by
          refine ⟨cur2[i - 2], ?_⟩
          rw [hon.cellAt (i - 2) (by omega)]
          simp [List.getElem?_eq_getElem (show i - 2 < cur2.length by omega)]
        obtain ⟨y2, hc2⟩ := hc2
        have hfz2 : wz.frozen? ⟨w.heap.size, i - 2, none⟩ = false := hon.frozenAt (i - 2)
        have hszz := hbn.size
        have hst2 := hon.stored (i - 2) (.int .u8 45)
        have hon2 : (wz.setCell ⟨w.heap.size, i - 2, none⟩ (.int .u8 45)).ownsRow w.heap.size 109 1 (.slice (some ⟨w.heap.size, 0, none⟩) 65 65) 65 ((cur2.set (i - 2) 45).map (Value.int .u8)) := by
          rw [List.map_set]; exact hst2.1
        have hbn2 : Below w.heap.size w (wz.setCell ⟨w.heap.size, i - 2, none⟩ (.int .u8 45)) := hbn.grown hst2.2 hszz (fun q e => by cases e; exact Nat.le_refl _)
        have hdrop2 : (cur2.set (i - 2) 45).drop (i - 2) = ints (45 :: D) := by
          rw [List.drop_eq_getElem_cons (show i - 2 < (cur2.set (i - 2) 45).length by rw [List.length_set]; omega), List.getElem_set_self, List.drop_set_of_lt (by omega), show i - 2 + 1 = i - 1 by omega, hdrop]
          rfl
        have hDl2 : (45 :: D).length = 65 - (i - 2) := by rw [List.length_cons, hDl]; omega
        have hby : ∀ j (hj : j < (45 :: D).length), (wz.setCell ⟨w.heap.size, i - 2, none⟩ (.int .u8 45)).cell? ((⟨w.heap.size, i - 2, none⟩ : Addr).add j) = some (.int .u8 ((45 :: D)[j].toNat : Int)) := by
          intro j hj
          rw [Addr.add_lit, hon2.cellAt (i - 2 + j) (by omega), List.getElem?_map]
          have h2 : (cur2.set (i - 2) 45)[i - 2 + j]? = some (((45 :: D)[j].toNat : Nat) : Int) := by
            rw [← List.getElem?_drop, hdrop2]
            unfold ints
            rw [List.getElem?_map, List.getElem?_eq_getElem hj]; rfl
          rw [h2]; rfl
        have hcv := run_convert_bytes_back (P := Tryd.prog) (wz.setCell ⟨w.heap.size, i - 2, none⟩ (.int .u8 45)) 57 9 5 ⟨w.heap.size, i - 2, none⟩ (65 - (i - 2)) (45 :: D) Tryd.underlying57 Tryd.underlying5 Tryd.underlying9 hby
        rw [hDl2] at hcv
        rw [hwz] at hcv hc2 hfz2
        have hsl := slice65 w.heap.size (i - 2) (by omega) ((i : Int) - 1 - 1) (by omega)
        have HBN := Lib.hid hbn2
        have HWZ := Lib.hid hwz
        clear hD hx hxi hdg hst hon hown hcell hdrop hDl hlen2 hcur2 hby hwz hbn hcl' hst2 hon2 hbn2 hdrop2 hDl2
        go_wp2_with fail
        go_ret2
        refine ⟨by rw [← HDD.out]; rfl, ?_⟩
        rw [← HWZ.out]; exact HBN.out
def NTabs (w : World) : Prop := BTab w ∧ Lib.TabIs Tryd.prog w "internal/strconv.uint64pow10" .u64 Lib.pow10Tab
theorem NTabs.keep {w w' : World} (h : NTabs w) (hb : Below w.heap.size w w') : NTabs w' :=
  ⟨h.1.keep hb, TabIs_below (g := 5) (by kernel_rfl) h.2 hb⟩

def numText (n : Int) (b : Nat) : List UInt8 := (if decide (n < 0) then [45] else []) ++ digF (n.natAbs + 1) b n.natAbs
def StrPost (x : List UInt8) (w : World) (e : Ending) (w' : World) : Prop := e = .returned (.string ⟨x.toArray⟩) ∧ Below w.heap.size w w'

theorem below_grow (w : World) (k : Nat) (os : Array Obj) : Below w.heap.size w (Go.Sort.grow (w.drewN k) os) := by
  refine ⟨rfl, rfl, rfl, ?_, fun i hi => ?_⟩
  · show w.heap.size ≤ (w.heap ++ os).size
    simp
  · show (w.heap ++ os)[i]? = w.heap[i]?
    rw [Array.getElem?_append_left hi]

set_option maxHeartbeats 1000000 in
theorem intFormat_any (n : Int) (h0 : -9223372036854775808 ≤ n) (h1 : n ≤ 9223372036854775807) (b : Nat) (hb : b = 2 ∨ b = 8 ∨ b = 16) (w : World) (hT : BTab w) :
    Calls Tryd.prog 41 #[.int .i64 n, .int .i64 b] w (StrPost (numText n b) w) := by
  have k1 : decide (n < 0) = false → IntKind.u64.wrap n = (n.natAbs : Int) := by
    intro h
    have h2 : ¬ n < 0 := by simpa using h
    rw [IntKind.wrap_u64]; omega
  have k2 : decide (n < 0) = true → IntKind.u64.wrap (-IntKind.u64.wrap n) = (n.natAbs : Int) := by
    intro h
    have h2 : n < 0 := by simpa using h
    rw [IntKind.wrap_u64, IntKind.wrap_u64]; omega
  have hfb := formatBits_any b hb n.natAbs (by omega) (decide (n < 0)) (IntKind.u64.wrap n) k1 k2 w hT
  clear k1 k2
  unfold BitsPost at hfb
  have e : (if decide (n < 0) = true then ([45] : List UInt8) else []) ++ digF (n.natAbs + 1) b n.natAbs = numText n b := rfl
  rw [e] at hfb
  have HF := Lib.hid hfb
  have t1 : ((b : Int) == 10) = false := by rcases hb with rfl | rfl | rfl <;> rfl
  clear hfb e hb hT
  go_enter Tryd.func41, Tryd.ntmps41
  go_wp2_with fail
  refine HF.out.mono ?_
  rintro e w2 ⟨rfl, hb⟩
  go_wp2
  go_ret
  exact ⟨rfl, hb⟩

set_option maxHeartbeats 400000 in
theorem hex_any (n : Nat) (hn : n < 128) (w : World) (hT : NTabs w) : Calls Tryd.prog 40 #[.int .i64 n, .int .i64 16] w (StrPost (hexText n) w) := by
  have h := intFormat_any (n : Int) (by omega) (by omega) 16 (.inr (.inr rfl)) w hT.1
  have e : numText (n : Int) 16 = hexText n := by
    unfold numText hexText
    rw [decide_eq_false (by omega)]; rfl
  rw [e] at h
  have H := Lib.hid h
  clear h hT
  go_enter Tryd.func40, Tryd.ntmps40
  go_wp2_with fail
  refine H.out.mono ?_
  rintro e w2 ⟨rfl, hb⟩
  go_wp2
  go_ret
  exact ⟨rfl, hb⟩
end Go.Proofs.YtopfkelhgffomaaDoor
