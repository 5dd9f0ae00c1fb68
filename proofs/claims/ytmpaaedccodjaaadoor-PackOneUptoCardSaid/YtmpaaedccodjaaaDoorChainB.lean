/-
  The contract of chain: a text as bytes. Conditions: it has at most a million bytes.
-/
import Derived.Test.YtmpaaedccodjaaaDoorPackObj
namespace Go.Proofs.YtmpaaedccodjaaaDoor
open Go.RowKit Gx
set_option maxRecDepth 100000

def escB (l : List UInt8) : List Int := l.flatMap fun c => if c = 0 then [0, 255] else [(c.toNat : Int)]
def chainB (l : List UInt8) : List Int := escB l ++ [0, 0]
theorem escB_snoc (l : List UInt8) (c : UInt8) : escB (l ++ [c]) = escB l ++ (if c = 0 then [0, 255] else [(c.toNat : Int)]) := by simp [escB]
theorem escB_len (l : List UInt8) : (escB l).length ≤ 2 * l.length := by
  induction l with
  | nil => simp [escB]
  | cons c l ih =>
    have : escB (c :: l) = (if c = 0 then [0, 255] else [(c.toNat : Int)]) ++ escB l := rfl
    rw [this, List.length_append, List.length_cons]
    split <;> simp <;> omega
theorem chainB_len (l : List UInt8) : (chainB l).length ≤ 2 * l.length + 2 := by
  have := escB_len l
  simp only [chainB, List.length_append, List.length_cons, List.length_nil]; omega
/-- 'append(out, 0, 0)' and its like: what is written lies in a block of its own -/
theorem wpList_pushN (w : World) {ops : Array Oper} {rest : List Oper} {o : Oper} {ac : Act} {Q : Exit → Act → World → Prop} (hgd : o.guard = none) (s x : Operand)
    (ho : o.op = .call { callee := .builtin .append, args := #[s, x], argTypes := #[28, 28] })
    (base : Nat) (v : Value) (xs : List Int) (bs : List Int) (o' : Obj) (ho' : o' = .cells (bs.map (Value.int .u8)).toArray 5) (hs : ac.eval s = v) (hown : Out w base v xs) (l : Nat) (hbl : bs.length = l)
    (hx : ac.eval x = .slice (some ⟨w.heap.size, 0, none⟩) l l) (m : Nat) (hm : xs.length = m) (h63 : m + l ≤ 1000000000000) (hbase : base ≤ w.heap.size)
    (h : ∀ ao c w', Out w' base (.slice ao (m + l) c) (xs ++ bs) → w.grownBy w' v.ownBlock → Moved v (.slice ao (m + l) c) w.heap.size → wpList Tryd.prog ops Q rest (ac.put o.dst (.slice ao (m + l) c)) w') :
    wpList Tryd.prog ops Q (o :: rest) ac (w.alloc o') := by
  subst ho'
  subst hm
  subst hbl
  have hown' : (w.alloc (.cells (bs.map (Value.int .u8)).toArray 5)).ownsRow base 5 1 v xs.length (xs.map (Value.int .u8)) := World.ownsRow.alloc hown _
  refine Gx.wpList_append_all (w.alloc (.cells (bs.map (Value.int .u8)).toArray 5)) hgd s x 28 ho base 5 (.int .u8 0) 1 1 Tryd.underlying28 Tryd.info_byte rfl (by decide) v xs.length (xs.map (Value.int .u8)) (some ⟨w.heap.size, 0, none⟩) bs.length bs.length (bs.map (Value.int .u8)) hs hx hown' (by simp) (fun e => by cases e)
    (fun a e j u hj => by
      cases e
      rw [Addr.add_lit]
      have := World.cell?_alloc_mark w (bs.map (Value.int .u8)).toArray 5 (0, 0) (0 + j)
      rw [this]; simpa using hj)
    (fun u hu => by obtain ⟨z, _, rfl⟩ := List.mem_map.1 hu; rfl) (by omega) (by omega) (by simp; omega) ?_
  intro v' w' ho2 hg hm
  obtain ⟨ao, c, rfl⟩ := own_form ho2
  refine h ao c w' ?_ (grown_alloc' _ hg) (by rcases hm with hm | ⟨g, hm, hgl⟩; exact .inl hm; exact .inr ⟨g, hm, by simp at hgl; omega⟩)
  unfold Out
  rw [List.length_append, List.map_append]
  exact ho2

set_option maxHeartbeats 8000000 in
theorem chain_any (base : Nat) (ao : Option Addr) (c : Nat) (xs : List Int) (s : ByteArray) (w : World) (h : Out w base (.slice ao xs.length c) xs) (hb : base ≤ w.heap.size) (hx : xs.length ≤ 100000000000) (hs : s.size ≤ 1000000) :
    Calls Tryd.prog 30 #[.slice ao xs.length c, .string s] w (OutPost base (.slice ao xs.length c) xs (chainB s.data.toList) w) := by
  obtain ⟨cap, w1, hconv, -, hsz1, hg, hC⟩ := Gx.conv_bytes_run (P := Tryd.prog) w 9 28 5 s Tryd.underlying9 Tryd.underlying28 Tryd.underlying5
  have hO1 : Out w1 base (.slice ao xs.length c) xs := h.keep (Gx.grown_below hg (Nat.le_refl _) (fun k e => by cases e))
  have hob := h.base
  have HO1 := Lib.hid hO1
  have HG := Lib.hid hg
  have HC := Lib.hid hC
  have HSZ := Lib.hid hsz1
  have HOB := Lib.hid hob
  have hsl : s.data.toList.length = s.size := rfl
  have HSL := Lib.hid hsl
  clear hO1 hg hC hsz1 hob h hsl
  go_enter Tryd.func30, Tryd.ntmps30
  go_wp2
  clear hconv
  go_loopw [0, 10] (fun v0 v10 wr => ∃ k : Nat, k ≤ s.size ∧ v10 = .int .i64 k ∧ ∃ m ao' c', v0 = .slice ao' m c' ∧ Hid (m = xs.length + (escB (s.data.toList.take k)).length) ∧ Hid (Out wr base v0 (xs ++ escB (s.data.toList.take k))) ∧ Hid (w1.grownBy wr (Value.slice ao xs.length c).ownBlock) ∧ Hid (Moved (.slice ao xs.length c) v0 w1.heap.size)) (fun _ v10 _ => s.size - (intOf v10).toNat)
  case atStart => exact ⟨0, Nat.zero_le _, rfl, xs.length, ao, c, rfl, Lib.hid (by simp [escB]), by rw [List.take_zero]; exact Lib.hid (by rw [show escB [] = [] from rfl, List.append_nil]; exact HO1.out), Lib.hid (World.grownBy.refl _ _), Lib.hid (.inl rfl)⟩
  case round =>
    obtain ⟨k, hk, rfl, m, ao', c', rfl, HM, HO, HGR, HMV⟩ := hrel
    have hml : m ≤ 100002000000 := by
      have := HM.out
      have h1 := escB_len (s.data.toList.take k)
      have h2 : (s.data.toList.take k).length ≤ k := List.length_take_le _ _
      omega
    have hwb : base ≤ wr.heap.size := by have h1 := HG.out.size; have h2 := HGR.out.size; omega
    have hlen : Hid ((xs ++ escB (s.data.toList.take k)).length = m) := Lib.hid (by rw [List.length_append, HM.out])
    by_cases hlt : k < s.size
    · have hc : wr.cell? ⟨w.heap.size, k, none⟩ = some (.int .u8 (s.data[k].toNat : Int)) := by
        have hgb := HGR.out.block w.heap.size HSZ.out (fun e => by have := (HOB.out _ e.symm).2; omega)
        exact (World.cell?_of_block hgb).trans (HC.out k hlt)
      have hsn := escB_snoc (s.data.toList.take k) s.data[k]
      rw [show s.data.toList.take k ++ [s.data[k]] = s.data.toList.take (k+1) from by rw [List.take_succ_eq_append_getElem (by simpa using hlt)]; rfl] at hsn
      have HSN := Lib.hid hsn
      clear hsn
      by_cases h0 : s.data[k].toNat = 0
      · have h0' : s.data[k] = 0 := UInt8.toNat_inj.1 h0
        have HT : Hid (escB (s.data.toList.take (k+1)) = escB (s.data.toList.take k) ++ [0, 255]) := Lib.hid (by rw [HSN.out, if_pos h0'])
        rw [h0] at hc
        clear HSN h0 h0'
        go_wp2_with (first
          | (at_builtin; refine wpList_pushB wr rfl (.tmp 14) (.tmp 16) rfl base (.slice ao' m c') (xs ++ escB (s.data.toList.take k)) 0 _ rfl rfl HO.out rfl m hlen.out (by omega) hwb ?_; intro ao2 c2 w2 ho2 hg2 hm2; have hb2 : base ≤ w2.heap.size := Nat.le_trans hwb hg2.size)
          | (at_builtin; refine wpList_pushB w2 rfl (.tmp 20) (.tmp 21) rfl base (.slice ao2 (m + 1) c2) ((xs ++ escB (s.data.toList.take k)) ++ [0]) 255 _ rfl rfl ho2 rfl (m + 1) (by rw [List.length_append, hlen.out]; rfl) (by omega) hb2 ?_; intro ao3 c3 w3 ho3 hg3 hm3))
        have H1 : Hid (m + 2 = xs.length + (escB (s.data.toList.take (k + 1))).length) := Lib.hid (by rw [HT.out, List.length_append, HM.out]; simp; omega)
        have H2 : Hid (Out w3 base (.slice ao3 (m + 2) c3) (xs ++ escB (s.data.toList.take (k + 1)))) := Lib.hid (by
          rw [HT.out, ← List.append_assoc]
          simpa using ho3)
        have hmv2 := moved_trans HMV.out hm2 HGR.out.size
        have hgr2 := grown_moved HGR.out hg2 HMV.out
        have H3 := Lib.hid (grown_moved hgr2 hg3 hmv2)
        have H4 : Hid (Moved (.slice ao xs.length c) (.slice ao3 (m + 2) c3) w1.heap.size) := Lib.hid (moved_trans hmv2 hm3 hgr2.size)
        clear ho2 hg2 hm2 ho3 hg3 hm3 hmv2 hgr2 HO HMV HGR HM hlen HT hc hb2
        go_roundw
        case rel => exact ⟨k + 1, by omega, by go_num, m + 2, ao3, c3, rfl, H1, H2, H3, H4⟩
        case measure => simp [intOf]; omega
      · have h0' : ¬ s.data[k] = 0 := fun e => h0 (by rw [e]; rfl)
        have t1 : (((s.data[k].toNat : Nat) : Int) == 0) = false := by simp; omega
        have HT : Hid (escB (s.data.toList.take (k+1)) = escB (s.data.toList.take k) ++ [((s.data[k].toNat : Nat) : Int)]) := Lib.hid (by rw [HSN.out, if_neg h0'])
        obtain ⟨b, hbb⟩ : ∃ b : Int, ((s.data[k].toNat : Nat) : Int) = b := ⟨_, rfl⟩
        have hb8 : 0 ≤ b ∧ b ≤ 255 := by have := s.data[k].toNat_lt; omega
        rw [hbb] at hc t1 HT
        have t2 : decide (b = 0) = false := by simpa using t1
        clear HSN h0 h0' hbb
        go_wp2_with (at_builtin; refine wpList_pushB wr rfl (.tmp 14) (.tmp 16) rfl base (.slice ao' m c') (xs ++ escB (s.data.toList.take k)) b _ rfl rfl HO.out rfl m hlen.out (by omega) hwb ?_; intro ao2 c2 w2 ho2 hg2 hm2)
        have H1 : Hid (m + 1 = xs.length + (escB (s.data.toList.take (k + 1))).length) := Lib.hid (by rw [HT.out, List.length_append, HM.out]; simp; omega)
        have H2 : Hid (Out w2 base (.slice ao2 (m + 1) c2) (xs ++ escB (s.data.toList.take (k + 1)))) := Lib.hid (by
          rw [HT.out, ← List.append_assoc]
          exact ho2)
        have H3 := Lib.hid (grown_moved HGR.out hg2 HMV.out)
        have H4 : Hid (Moved (.slice ao xs.length c) (.slice ao2 (m + 1) c2) w1.heap.size) := Lib.hid (moved_trans HMV.out hm2 HGR.out.size)
        clear ho2 hg2 hm2 HO HMV HGR HM hlen HT hc
        go_roundw
        case rel => exact ⟨k + 1, by omega, by go_num, m + 1, ao2, c2, rfl, H1, H2, H3, H4⟩
        case measure => simp [intOf]; omega
    · obtain rfl : k = s.size := by omega
      have hall : s.data.toList.take s.size = s.data.toList := List.take_of_length_le (Nat.le_of_eq HSL.out)
      rw [hall] at HM HO hlen
      clear hall hlt hk
      go_wp2_with (at_builtin; refine wpList_pushN wr rfl (.tmp 24) (.tmp 25) rfl base (.slice ao' m c') (xs ++ escB s.data.toList) [0, 0] _ rfl rfl HO.out 2 rfl rfl m hlen.out (by omega) hwb ?_; intro ao2 c2 w2 ho2 hg2 hm2)
      try go_ret
      have hgr2 := grown_moved HGR.out hg2 HMV.out
      have hmv2 := moved_trans HMV.out hm2 HGR.out.size
      have hml2 : xs.length + (chainB s.data.toList).length = m + 2 := by rw [HM.out, chainB, List.length_append]; rfl
      refine ⟨ao2, c2, by rw [hml2]; rfl, by rw [hml2, chainB, ← List.append_assoc]; exact ho2, ?_, ?_⟩
      · exact ⟨hgr2.os.trans HG.out.os, hgr2.tape.trans HG.out.tape, hgr2.output.trans HG.out.output, Nat.le_trans HG.out.size hgr2.size, fun i hi hne => (hgr2.block i (Nat.lt_of_lt_of_le hi HG.out.size) hne).trans (HG.out.block i hi (by simp))⟩
      · rw [hml2]; rcases hmv2 with h | ⟨g, h, hg⟩
        · exact .inl h
        · exact .inr ⟨g, h, by have := HSZ.out; omega⟩
end Go.Proofs.YtmpaaedccodjaaaDoor
