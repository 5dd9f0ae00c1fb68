/-
  Rows of bytes that a call writes on; word. No conditions.
-/
import Derived.Test.YtmpaaedccodjaaaDoorVal
import Derived.Test.YtmpaaedccodjaaaDoorProg
import Derived.Deep.DeepCutAuto
import Derived.Deep.CutBlock
import Derived.Deep.DeepFit
import Derived.Outline
import Derived.WalkLawsBesides
import Derived.StillTailTactics
import Derived.Deep.RegionHeld3
namespace Go.Proofs.YtmpaaedccodjaaaDoor
open Go.RowKit Gx
set_option maxRecDepth 100000

/-- v is a row of its own, in blocks from base on, of the bytes xs -/
def Out (w : World) (base : Nat) (v : Value) (xs : List Int) : Prop := w.ownsRow base 5 1 v xs.length (xs.map (Value.int .u8))
theorem Out.nil (w : World) (base : Nat) : Out w base (.slice none 0 0) [] := World.ownsRow_nil ..
theorem Out.base {w : World} {base : Nat} {v : Value} {xs : List Int} (h : Out w base v xs) (k : Nat) (e : v.ownBlock = some k) : base ≤ k ∧ k < w.heap.size := h.lt k e
theorem Out.keep {w w' : World} {base : Nat} {v : Value} {xs : List Int} (h : Out w base v xs) (hb : Below w.heap.size w w') : Out w' base v xs := own_keep h hb
theorem Out.form {w : World} {base : Nat} {v : Value} {xs : List Int} (h : Out w base v xs) : ∃ ao c, v = .slice ao xs.length c := own_form h
theorem Out.weak {w : World} {base b' : Nat} {v : Value} {xs : List Int} (h : Out w base v xs) (hb : b' ≤ base) : Out w b' v xs := by
  refine ⟨h.1, ?_⟩
  rcases h.2 with h2 | ⟨g, cap, cur, hv, hg, r⟩
  · exact .inl h2
  · exact .inr ⟨g, cap, cur, hv, Nat.le_trans hb hg, r⟩
/-- what a call hands back that wrote 'more' on -/
def OutPost (base : Nat) (v : Value) (xs more : List Int) (w : World) (e : Ending) (w' : World) : Prop :=
  ∃ ao c, e = .returned (.slice ao (xs.length + more.length) c) ∧ Out w' base (.slice ao (xs.length + more.length) c) (xs ++ more) ∧ w.grownBy w' v.ownBlock ∧ Moved v (.slice ao (xs.length + more.length) c) w.heap.size
theorem moved_trans {v v' v'' : Value} {a b : Nat} (h : Moved v v' a) (k : Moved v' v'' b) (hab : a ≤ b) : Moved v v'' a := by
  rcases k with k | ⟨g, k, hg⟩
  · rcases h with h | ⟨g, h, hg⟩
    · exact .inl (k.trans h)
    · exact .inr ⟨g, k.trans h, hg⟩
  · exact .inr ⟨g, k, Nat.le_trans hab hg⟩
/-- what was written into v, and then into where v went -/
theorem grown_moved {v v' : Value} {w w1 w2 : World} (h : w.grownBy w1 v.ownBlock) (k : w1.grownBy w2 v'.ownBlock) (hm : Moved v v' w.heap.size) : w.grownBy w2 v.ownBlock :=
  ⟨k.os.trans h.os, k.tape.trans h.tape, k.output.trans h.output, Nat.le_trans h.size k.size, fun i hi hne => by
    refine (k.block i (Nat.lt_of_lt_of_le hi h.size) (fun e => ?_)).trans (h.block i hi hne)
    rcases hm with hm | ⟨g, hm, hg⟩
    · exact hne (e.trans hm)
    · rw [hm] at e; have : i = g := Option.some.inj e; omega⟩
theorem grown_alloc' {v : Value} {w w1 : World} (o : Obj) (h : (w.alloc o).grownBy w1 v.ownBlock) : w.grownBy w1 v.ownBlock :=
  ⟨h.os, h.tape, h.output, Nat.le_trans (by simp) h.size, fun i hi hne => (h.block i (by simp; omega) hne).trans (Below.heap_alloc w o i hi)⟩
theorem Tryd.info_byte : (Tryd.prog.info? 5).map (fun i => (i.zero, i.size, i.bytes)) = some (some (.int .u8 0), 1, 1) := by kernel_rfl

/-- 'append(out, b)' -/
theorem wpList_pushB (w : World) {ops : Array Oper} {rest : List Oper} {o : Oper} {ac : Act} {Q : Exit → Act → World → Prop} (hgd : o.guard = none) (s x : Operand)
    (ho : o.op = .call { callee := .builtin .append, args := #[s, x], argTypes := #[28, 28] })
    (base : Nat) (v : Value) (xs : List Int) (b : Int) (o' : Obj) (ho' : o' = .cells #[.int .u8 b] 5) (hs : ac.eval s = v) (hown : Out w base v xs)
    (hx : ac.eval x = .slice (some ⟨w.heap.size, 0, none⟩) 1 1) (m : Nat) (hm : xs.length = m) (h63 : m + 1 ≤ 1000000000000) (hbase : base ≤ w.heap.size)
    (h : ∀ ao c w', Out w' base (.slice ao (m + 1) c) (xs ++ [b]) → w.grownBy w' v.ownBlock → Moved v (.slice ao (m + 1) c) w.heap.size → wpList Tryd.prog ops Q rest (ac.put o.dst (.slice ao (m + 1) c)) w') :
    wpList Tryd.prog ops Q (o :: rest) ac (w.alloc o') := by
  subst ho'
  subst hm
  refine Gx.wpList_push w hgd s x 28 ho base 5 (.int .u8 0) 1 1 Tryd.underlying28 Tryd.info_byte rfl (by decide) v xs.length (xs.map (Value.int .u8)) [.int .u8 b] _ rfl hs hown hx rfl (fun u hu => by simp at hu; subst hu; rfl) (by omega) (by omega) hbase ?_
  intro v' w' ho2 hg hm _
  obtain ⟨ao, c, rfl⟩ := own_form ho2
  refine h ao c w' ?_ hg hm
  unfold Out
  rw [List.length_append, List.map_append]
  exact ho2

/-- the same within a region that draws its order -/
theorem step_pushB {ops : Array Oper} {o : Oper} {ac : Act} {K : Act → World → Prop} {Q : Exit → Act → World → Prop} {F : Prop} (w : World) (hgd : o.guard = none) (s x : Operand)
    (ho : o.op = .call { callee := .builtin .append, args := #[s, x], argTypes := #[28, 28] })
    (base : Nat) (v : Value) (xs : List Int) (b : Int) (W : World) (ho' : W = w.alloc (.cells #[.int .u8 b] 5)) (hs : ac.eval s = v) (hown : Out w base v xs)
    (hx : ac.eval x = .slice (some ⟨w.heap.size, 0, none⟩) 1 1) (m : Nat) (hm : xs.length = m) (h63 : m + 1 ≤ 1000000000000) (hbase : base ≤ w.heap.size)
    (h : ∀ ao c w', Out w' base (.slice ao (m + 1) c) (xs ++ [b]) → w.grownBy w' v.ownBlock → Moved v (.slice ao (m + 1) c) w.heap.size → K (ac.put o.dst (.slice ao (m + 1) c)) w') :
    if Region.wanted o (yielded ops ac.tmps) = true then Oper.wp Tryd.prog o ac W K Q else F := by
  subst ho'
  subst hm
  obtain ⟨i0, hi, hz0, hz1, hz2⟩ := info_parts Tryd.info_byte
  have hw : Region.wanted o (yielded ops ac.tmps) = true := by simp [Region.wanted, hgd]
  rw [if_pos hw]
  have hown' : (w.alloc (.cells #[.int .u8 b] 5)).ownsRow base 5 1 v xs.length (xs.map (Value.int .u8)) := World.ownsRow.alloc hown _
  obtain ⟨v', w', hr, ho2, hg, hm, hnn⟩ := run_append_moved (P := Tryd.prog) (w.alloc (.cells #[.int .u8 b] 5)) base 28 o.type 5 i0 (.int .u8 0) 1 1 Tryd.underlying28 hi hz0 hz1 hz2 rfl (by decide) v xs.length (xs.map (Value.int .u8))
    hown' ⟨w.heap.size, 0, none⟩ 1 1 [.int .u8 b] rfl
    (fun j u hj => by
      rw [Addr.add_lit]
      have := World.cell?_alloc_mark w #[.int .u8 b] 5 (0, 0) (0 + j)
      rw [this]; simpa using hj)
    (fun u hu => by simp at hu; subst hu; rfl) (by omega) (by unfold maxLen; omega) (by simp; omega)
  obtain ⟨ao, c, rfl⟩ := own_form ho2
  unfold Oper.wp execOp
  simp only [ho, resolve, invoke, builtin, Sem.run_bind, Sem.run_pure, Result.andThen_ok, List.map_toArray, List.map_cons, List.map_nil, hs, hx, hr]
  refine h ao c w' ?_ (grown_alloc' _ hg) (by rcases hm with hm | ⟨g, hm, hgl⟩; exact .inl hm; exact .inr ⟨g, hm, by simp at hgl; omega⟩)
  unfold Out
  rw [List.length_append, List.map_append]
  exact ho2
/-- a number as eight bytes -/
def wordB (n : Int) : List Int := [n / 72057594037927936, n / 281474976710656 % 256, n / 1099511627776 % 256, n / 4294967296 % 256, n / 16777216 % 256, n / 65536 % 256, n / 256 % 256, n % 256]
theorem wordB_len (n : Int) : (wordB n).length = 8 := rfl
set_option maxHeartbeats 4000000 in
theorem word_any (base : Nat) (ao : Option Addr) (c : Nat) (xs : List Int) (n : Int) (w : World) (h : Out w base (.slice ao xs.length c) xs) (hb : base ≤ w.heap.size) (hx : xs.length ≤ 100000000000) (h0 : 0 ≤ n) (h1 : n ≤ 18446744073709551615) :
    Calls Tryd.prog 29 #[.slice ao xs.length c, .int .u64 n] w (OutPost base (.slice ao xs.length c) xs (wordB n) w) := by
  have H := Lib.hid h
  clear h
  go_enter Tryd.func29, Tryd.ntmps29
  go_wp2
  go_loopw [0, 5] (fun v0 v5 wr => ∃ j : Nat, j ≤ 8 ∧ v5 = .int .i64 (56 - 8 * (j : Int)) ∧ Hid (∃ ao' c', v0 = .slice ao' (xs.length + j) c' ∧ Out wr base v0 (xs ++ (wordB n).take j) ∧ w.grownBy wr (Value.slice ao xs.length c).ownBlock ∧ Moved (.slice ao xs.length c) v0 w.heap.size)) (fun _ v5 _ => (64 + intOf v5).toNat)
  case atStart => exact ⟨0, by omega, rfl, ao, c, rfl, by rw [List.take_zero, List.append_nil]; exact H.out, World.grownBy.refl _ _, .inl rfl⟩
  case round =>
    obtain ⟨j, hj, rfl, hh⟩ := hrel
    obtain ⟨ao', c', rfl, ho, hg, hm⟩ := hh.out
    clear hh
    by_cases hj8 : j = 8
    · subst hj8
      rw [show (wordB n).take 8 = wordB n from rfl] at ho
      have HO := Lib.hid ho
      have HG := Lib.hid hg
      have HM := Lib.hid hm
      clear ho hg hm
      go_wp2
      try go_ret
      exact ⟨ao', c', rfl, HO.out, HG.out, HM.out⟩
    · have hlen : (xs ++ (wordB n).take j).length = xs.length + j := by rw [List.length_append, List.length_take, wordB_len]; omega
      have hwb : base ≤ wr.heap.size := Nat.le_trans hb hg.size
      have HO := Lib.hid ho
      have HG := Lib.hid hg
      have HM := Lib.hid hm
      have HL := Lib.hid hlen
      clear ho hg hm hlen
      have hjj : j = 0 ∨ j = 1 ∨ j = 2 ∨ j = 3 ∨ j = 4 ∨ j = 5 ∨ j = 6 ∨ j = 7 := by omega
      clear hj hj8
      rcases hjj with rfl | rfl | rfl | rfl | rfl | rfl | rfl | rfl
      · go_wp2_with (at_builtin; refine wpList_pushB wr rfl (.tmp 10) (.tmp 16) rfl base (.slice ao' (xs.length + 0) c') (xs ++ (wordB n).take 0) (n / 72057594037927936) _ rfl rfl HO.out rfl (xs.length + 0) HL.out (by omega) hwb ?_; intro ao2 c2 w2 ho2 hg2 hm2)
        have HH : Hid (∃ ao' c', Value.slice ao2 (xs.length + 1) c2 = .slice ao' (xs.length + 1) c' ∧ Out w2 base (Value.slice ao2 (xs.length + 1) c2) (xs ++ (wordB n).take 1) ∧ w.grownBy w2 (Value.slice ao xs.length c).ownBlock ∧ Moved (.slice ao xs.length c) (Value.slice ao2 (xs.length + 1) c2) w.heap.size) :=
          Lib.hid ⟨ao2, c2, rfl, by rw [show (wordB n).take 1 = (wordB n).take 0 ++ [n / 72057594037927936] from rfl, ← List.append_assoc]; exact ho2, grown_moved HG.out hg2 HM.out, moved_trans HM.out hm2 HG.out.size⟩
        clear ho2 hg2 hm2 HO HG HM HL
        go_roundw
        case rel => exact ⟨1, by omega, by simp, HH⟩
        case measure => simp [intOf]
      · go_wp2_with (at_builtin; refine wpList_pushB wr rfl (.tmp 10) (.tmp 16) rfl base (.slice ao' (xs.length + 1) c') (xs ++ (wordB n).take 1) (n / 281474976710656 % 256) _ rfl rfl HO.out rfl (xs.length + 1) HL.out (by omega) hwb ?_; intro ao2 c2 w2 ho2 hg2 hm2)
        have HH : Hid (∃ ao' c', Value.slice ao2 (xs.length + 2) c2 = .slice ao' (xs.length + 2) c' ∧ Out w2 base (Value.slice ao2 (xs.length + 2) c2) (xs ++ (wordB n).take 2) ∧ w.grownBy w2 (Value.slice ao xs.length c).ownBlock ∧ Moved (.slice ao xs.length c) (Value.slice ao2 (xs.length + 2) c2) w.heap.size) :=
          Lib.hid ⟨ao2, c2, rfl, by rw [show (wordB n).take 2 = (wordB n).take 1 ++ [n / 281474976710656 % 256] from rfl, ← List.append_assoc]; exact ho2, grown_moved HG.out hg2 HM.out, moved_trans HM.out hm2 HG.out.size⟩
        clear ho2 hg2 hm2 HO HG HM HL
        go_roundw
        case rel => exact ⟨2, by omega, by simp, HH⟩
        case measure => simp [intOf]
      · go_wp2_with (at_builtin; refine wpList_pushB wr rfl (.tmp 10) (.tmp 16) rfl base (.slice ao' (xs.length + 2) c') (xs ++ (wordB n).take 2) (n / 1099511627776 % 256) _ rfl rfl HO.out rfl (xs.length + 2) HL.out (by omega) hwb ?_; intro ao2 c2 w2 ho2 hg2 hm2)
        have HH : Hid (∃ ao' c', Value.slice ao2 (xs.length + 3) c2 = .slice ao' (xs.length + 3) c' ∧ Out w2 base (Value.slice ao2 (xs.length + 3) c2) (xs ++ (wordB n).take 3) ∧ w.grownBy w2 (Value.slice ao xs.length c).ownBlock ∧ Moved (.slice ao xs.length c) (Value.slice ao2 (xs.length + 3) c2) w.heap.size) :=
          Lib.hid ⟨ao2, c2, rfl, by rw [show (wordB n).take 3 = (wordB n).take 2 ++ [n / 1099511627776 % 256] from rfl, ← List.append_assoc]; exact ho2, grown_moved HG.out hg2 HM.out, moved_trans HM.out hm2 HG.out.size⟩
        clear ho2 hg2 hm2 HO HG HM HL
        go_roundw
        case rel => exact ⟨3, by omega, by simp, HH⟩
        case measure => simp [intOf]
      · go_wp2_with (at_builtin; refine wpList_pushB wr rfl (.tmp 10) (.tmp 16) rfl base (.slice ao' (xs.length + 3) c') (xs ++ (wordB n).take 3) (n / 4294967296 % 256) _ rfl rfl HO.out rfl (xs.length + 3) HL.out (by omega) hwb ?_; intro ao2 c2 w2 ho2 hg2 hm2)
        have HH : Hid (∃ ao' c', Value.slice ao2 (xs.length + 4) c2 = .slice ao' (xs.length + 4) c' ∧ Out w2 base (Value.slice ao2 (xs.length + 4) c2) (xs ++ (wordB n).take 4) ∧ w.grownBy w2 (Value.slice ao xs.length c).ownBlock ∧ Moved (.slice ao xs.length c) (Value.slice ao2 (xs.length + 4) c2) w.heap.size) :=
          Lib.hid ⟨ao2, c2, rfl, by rw [show (wordB n).take 4 = (wordB n).take 3 ++ [n / 4294967296 % 256] from rfl, ← List.append_assoc]; exact ho2, grown_moved HG.out hg2 HM.out, moved_trans HM.out hm2 HG.out.size⟩
        clear ho2 hg2 hm2 HO HG HM HL
        go_roundw
        case rel => exact ⟨4, by omega, by simp, HH⟩
        case measure => simp [intOf]
      · go_wp2_with (at_builtin; refine wpList_pushB wr rfl (.tmp 10) (.tmp 16) rfl base (.slice ao' (xs.length + 4) c') (xs ++ (wordB n).take 4) (n / 16777216 % 256) _ rfl rfl HO.out rfl (xs.length + 4) HL.out (by omega) hwb ?_; intro ao2 c2 w2 ho2 hg2 hm2)
        have HH : Hid (∃ ao' c', Value.slice ao2 (xs.length + 5) c2 = .slice ao' (xs.length + 5) c' ∧ Out w2 base (Value.slice ao2 (xs.length + 5) c2) (xs ++ (wordB n).take 5) ∧ w.grownBy w2 (Value.slice ao xs.length c).ownBlock ∧ Moved (.slice ao xs.length c) (Value.slice ao2 (xs.length + 5) c2) w.heap.size) :=
          Lib.hid ⟨ao2, c2, rfl, by rw [show (wordB n).take 5 = (wordB n).take 4 ++ [n / 16777216 % 256] from rfl, ← List.append_assoc]; exact ho2, grown_moved HG.out hg2 HM.out, moved_trans HM.out hm2 HG.out.size⟩
        clear ho2 hg2 hm2 HO HG HM HL
        go_roundw
        case rel => exact ⟨5, by omega, by simp, HH⟩
        case measure => simp [intOf]
      · go_wp2_with (at_builtin; refine wpList_pushB wr rfl (.tmp 10) (.tmp 16) rfl base (.slice ao' (xs.length + 5) c') (xs ++ (wordB n).take 5) (n / 65536 % 256) _ rfl rfl HO.out rfl (xs.length + 5) HL.out (by omega) hwb ?_; intro ao2 c2 w2 ho2 hg2 hm2)
        have HH : Hid (∃ ao' c', Value.slice ao2 (xs.length + 6) c2 = .slice ao' (xs.length + 6) c' ∧ Out w2 base (Value.slice ao2 (xs.length + 6) c2) (xs ++ (wordB n).take 6) ∧ w.grownBy w2 (Value.slice ao xs.length c).ownBlock ∧ Moved (.slice ao xs.length c) (Value.slice ao2 (xs.length + 6) c2) w.heap.size) :=
          Lib.hid ⟨ao2, c2, rfl, by rw [show (wordB n).take 6 = (wordB n).take 5 ++ [n / 65536 % 256] from rfl, ← List.append_assoc]; exact ho2, grown_moved HG.out hg2 HM.out, moved_trans HM.out hm2 HG.out.size⟩
        clear ho2 hg2 hm2 HO HG HM HL
        go_roundw
        case rel => exact ⟨6, by omega, by simp, HH⟩
        case measure => simp [intOf]
      · go_wp2_with (at_builtin; refine wpList_pushB wr rfl (.tmp 10) (.tmp 16) rfl base (.slice ao' (xs.length + 6) c') (xs ++ (wordB n).take 6) (n / 256 % 256) _ rfl rfl HO.out rfl (xs.length + 6) HL.out (by omega) hwb ?_; intro ao2 c2 w2 ho2 hg2 hm2)
        have HH : Hid (∃ ao' c', Value.slice ao2 (xs.length + 7) c2 = .slice ao' (xs.length + 7) c' ∧ Out w2 base (Value.slice ao2 (xs.length + 7) c2) (xs ++ (wordB n).take 7) ∧ w.grownBy w2 (Value.slice ao xs.length c).ownBlock ∧ Moved (.slice ao xs.length c) (Value.slice ao2 (xs.length + 7) c2) w.heap.size) :=
          Lib.hid ⟨ao2, c2, rfl, by rw [show (wordB n).take 7 = (wordB n).take 6 ++ [n / 256 % 256] from rfl, ← List.append_assoc]; exact ho2, grown_moved HG.out hg2 HM.out, moved_trans HM.out hm2 HG.out.size⟩
        clear ho2 hg2 hm2 HO HG HM HL
        go_roundw
        case rel => exact ⟨7, by omega, by simp, HH⟩
        case measure => simp [intOf]
      · go_wp2_with (at_builtin; refine wpList_pushB wr rfl (.tmp 10) (.tmp 16) rfl base (.slice ao' (xs.length + 7) c') (xs ++ (wordB n).take 7) (n % 256) _ rfl rfl HO.out rfl (xs.length + 7) HL.out (by omega) hwb ?_; intro ao2 c2 w2 ho2 hg2 hm2)
        have HH : Hid (∃ ao' c', Value.slice ao2 (xs.length + 8) c2 = .slice ao' (xs.length + 8) c' ∧ Out w2 base (Value.slice ao2 (xs.length + 8) c2) (xs ++ (wordB n).take 8) ∧ w.grownBy w2 (Value.slice ao xs.length c).ownBlock ∧ Moved (.slice ao xs.length c) (Value.slice ao2 (xs.length + 8) c2) w.heap.size) :=
          Lib.hid ⟨ao2, c2, rfl, by rw [show (wordB n).take 8 = (wordB n).take 7 ++ [n % 256] from rfl, ← List.append_assoc]; exact ho2, grown_moved HG.out hg2 HM.out, moved_trans HM.out hm2 HG.out.size⟩
        clear ho2 hg2 hm2 HO HG HM HL
        go_roundw
        case rel => exact ⟨8, by omega, by simp, HH⟩
        case measure => simp [intOf]
end Go.Proofs.YtmpaaedccodjaaaDoor
