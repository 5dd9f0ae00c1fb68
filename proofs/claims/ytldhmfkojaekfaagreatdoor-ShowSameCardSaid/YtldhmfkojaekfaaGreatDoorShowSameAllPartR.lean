/-
  The contract of the printer's value. Conditions: the value is good; the library's tables lie in the world.
  Numbers of values that lie in memory. No conditions.
  How long the text of a good value is, plainly. No conditions.
  The contract of val.own: what can be said of a value without its parts. Conditions: Go's two tables of utf8 lie in the world.
  The contract of val.own: what can be said of a value without its parts. Conditions: Go's two tables of utf8 lie in the world.
  The contract of val.own: what can be said of a value without its parts. Conditions: Go's two tables of utf8 lie in the world.
-/
import Derived.WalkLawsBesides
import Derived.Deep.DeepFit
import Derived.Outline
import Derived.Test.YtldhmfkojaekfaaGreatDoorShowSameAllPartQ
namespace Go.Proofs.YtldhmfkojaekfaaGreatDoor
open Go.RowKit Gx
set_option maxRecDepth 100000

theorem bx_new (b deep : Nat) (q : Loc) (W : World) (hb : b < W.heap.size) : Bx b W.heap.size deep q (((W.alloc (.cells #[.pointer (some ⟨b, 0, none⟩)] 70)).alloc (.cells #[.int .i64 q.v.k, .int .i64 q.v.n, .int .u64 q.v.f, .string q.v.s, .slice q.ad q.v.l.length q.cap, .slice q.bd q.v.e.length q.dap] 26)).alloc (.cells #[.int .i64 deep] 3)) := by
  obtain ⟨w1, hw1⟩ : ∃ w1, w1 = W.alloc (.cells #[.pointer (some ⟨b, 0, none⟩)] 70) := ⟨_, rfl⟩
  obtain ⟨w2, hw2⟩ : ∃ w2, w2 = w1.alloc (.cells #[.int .i64 q.v.k, .int .i64 q.v.n, .int .u64 q.v.f, .string q.v.s, .slice q.ad q.v.l.length q.cap, .slice q.bd q.v.e.length q.dap] 26) := ⟨_, rfl⟩
  have z1 : w1.heap.size = W.heap.size + 1 := by rw [hw1]; simp
  have z2 : w2.heap.size = W.heap.size + 2 := by rw [hw2]; simp [z1]
  rw [← hw1, ← hw2]
  refine ⟨hb, ?_, ?_, ?_⟩
  · rw [Below.heap_alloc _ _ _ (by omega), hw2, Below.heap_alloc _ _ _ (by omega), hw1]; exact heap_alloc_new W _
  · rw [Below.heap_alloc _ _ _ (by omega), hw2, ← z1]; exact heap_alloc_new w1 _
  · rw [← z2]; exact heap_alloc_new w2 _
theorem keepP_new (b deep : Nat) (q : Loc) (W : World) (hb : b < W.heap.size) : KeepP b W (((W.alloc (.cells #[.pointer (some ⟨b, 0, none⟩)] 70)).alloc (.cells #[.int .i64 q.v.k, .int .i64 q.v.n, .int .u64 q.v.f, .string q.v.s, .slice q.ad q.v.l.length q.cap, .slice q.bd q.v.e.length q.dap] 26)).alloc (.cells #[.int .i64 deep] 3)) :=
  KeepP.of_below (((Below.refl _ W).alloc (Nat.le_refl _) _).alloc (by simp) _ |>.alloc (by simp; omega) _) (Nat.le_of_lt hb)
theorem get_map {α β : Type} {f : α → β} {l : List α} {i : Nat} {x : β} (h : (l.map f)[i]? = some x) : ∃ y, l[i]? = some y ∧ f y = x := by
  rw [List.getElem?_map, Option.map_eq_some_iff] at h
  exact h
theorem partsT_map (many : Bool) (deep : Nat) {α : Type} (E : α → List UInt8) (l : List α) : partsT many deep (l.map E) = elemsT many deep E 0 l := by
  unfold partsT; rw [elemsT_map]
theorem Prn.keepP {b : Nat} {many : Bool} {l : List UInt8} {w w' : World} (h : Prn b many l w) (hb : Below w.heap.size w w') : Prn b many l w' := h.keep hb
set_option maxHeartbeats 8000000 in
theorem value_step (many : Bool) (b d deep : Nat) (hdd : deep + (d + 1) ≤ 20) (HV : ValOk many b d (deep + 1)) : ValOk many b (d + 1) deep := by
  intro q W l hp hq hg hl wt hwt hT hbw
  have hbl := hp.lt
  have hbx := bx_new b deep q W hbl
  have hkp := keepP_new b deep q W hbl
  have hbb : Below W.heap.size W (((W.alloc (.cells #[.pointer (some ⟨b, 0, none⟩)] 70)).alloc (.cells #[.int .i64 q.v.k, .int .i64 q.v.n, .int .u64 q.v.f, .string q.v.s, .slice q.ad q.v.l.length q.cap, .slice q.bd q.v.e.length q.dap] 26)).alloc (.cells #[.int .i64 deep] 3)) :=
    ((Below.refl _ W).alloc (Nat.le_refl _) _).alloc (by simp) _ |>.alloc (by simp; omega) _
  obtain ⟨w3, hw3⟩ : ∃ w3, w3 = (((W.alloc (.cells #[.pointer (some ⟨b, 0, none⟩)] 70)).alloc (.cells #[.int .i64 q.v.k, .int .i64 q.v.n, .int .u64 q.v.f, .string q.v.s, .slice q.ad q.v.l.length q.cap, .slice q.bd q.v.e.length q.dap] 26)).alloc (.cells #[.int .i64 deep] 3)) := ⟨_, rfl⟩
  rw [← hw3] at hbx hkp hbb
  have hp3 := hp.keep hbb
  have hq3 := vat_keep hq hkp
  have hbw3 := hbw.trans hkp.below
  have hsz3 := hbw3.size
  have hsz3b : b ≤ w3.heap.size := by rw [← hwt]; exact hsz3
  have hTW : ∀ W2 : World, Below b wt W2 → STabs W2 := fun W2 hb => hT.keep (by rw [hwt]; exact hb)
  have ok := hg.ok
  have hos := ownV_zero hg.1
  obtain ⟨n0, hn0⟩ : ∃ n0, n0 = W.heap.size := ⟨_, rfl⟩
  have z1 : (W.alloc (.cells #[.pointer (some ⟨b, 0, none⟩)] 70)).heap.size = n0 + 1 := by rw [hn0]; simp
  have z2 : ((W.alloc (.cells #[.pointer (some ⟨b, 0, none⟩)] 70)).alloc (.cells #[.int .i64 q.v.k, .int .i64 q.v.n, .int .u64 q.v.f, .string q.v.s, .slice q.ad q.v.l.length q.cap, .slice q.bd q.v.e.length q.dap] 26)).heap.size = n0 + 2 := by rw [hn0]; simp
  rw [← hn0] at hbx
  have cp := hbx.cp
  obtain ⟨v0, v1, v2, v3, v4, v5⟩ := hbx.cv
  have cd := hbx.cd
  unfold Loc.val
  by_cases h5 : q.v.k = 5
  · have he0 : q.v.e = [] := ok.e (by omega)
    have hall : Calls Tryz.prog 57 #[.pointer (some ⟨b, 0, none⟩), .string ⟨#[91, 93]⟩, .int .i64 q.v.l.length, .int .i64 deep, .func (.func 58) #[] #[.pointer (some ⟨n0, 0, none⟩), .pointer (some ⟨n0 + 1, 0, none⟩), .pointer (some ⟨n0 + 2, 0, none⟩)]] w3 (PrnQ b many (l ++ shwD leafT keyT many (d + 1) deep q.v) (Tx (d + 1) q.v) w3) := by
      have e1 : shwD leafT keyT many (d + 1) deep q.v = 91 :: (elemsT many deep (shwD leafT keyT many d (deep + 1)) 0 q.v.l ++ (tailT many deep q.v.l.length ++ [93])) := by rw [shwD, if_pos h5]
      have ha := all1_any b many l deep (q.v.l.map (shwD leafT keyT many d (deep + 1))) (.pointer (some ⟨n0, 0, none⟩)) (.pointer (some ⟨n0 + 1, 0, none⟩)) (.pointer (some ⟨n0 + 2, 0, none⟩)) (fun i => ∀ y, q.v.l[i]? = some y → Tx d y) w3 hp3 (by omega) (by rw [List.length_map]; omega) (1000000000000 - 100 * d) (by omega) (by
          rw [partsT_map]; rw [e1] at hl; simp only [List.length_cons, List.length_append] at hl; omega) (fun i x hx W2 l' hp2 hk2 hl2 => by
          obtain ⟨y, hy, rfl⟩ := get_map hx
          refine (one1_any many b d deep n0 q HV wt hwt hT (by omega) hg i y hy W2 l' hp2 (hbx.keep hk2) (vat_keep hq3 hk2) (hbw3.trans hk2.below) (by omega)).mono ?_
          rintro e w' ⟨h1, h2⟩
          exact ⟨h1, fun z hz => by rw [hy] at hz; obtain rfl := Option.some.inj hz; exact h2⟩)
      rw [List.length_map, partsT_map, ← e1] at ha
      refine ha.mono ?_
      rintro e w' ⟨h1, h2⟩
      refine ⟨h1, hq.wf, fun h => by omega, fun x hx => ?_, fun x hx => by rw [he0] at hx; cases hx⟩
      obtain ⟨i, hi, rfl⟩ := List.getElem_of_mem hx
      exact h2 i hi _ (List.getElem?_eq_getElem hi)
    have HC := Lib.hid hall
    have HKP := Lib.hid hkp
    have HW3 := Lib.hid hw3
    clear hall HV hp hq hl hT hbw hbx hkp hbb hp3 hq3 hbw3 hTW hos ok he0 hg hw3 z1 z2
    rw [h5] at v0 HW3 ⊢
    go_enter Tryz.func32, Tryz.ntmps32
    go_upto_region 1 with fail
    rw [← HW3.out, ← hn0]
    clear HW3 hn0
    go_wp2_with fail
    refine HC.out.mono ?_
    rintro e w4 ⟨⟨⟨v, rfl⟩, h4, hk4⟩, ht⟩
    have HR : Hid (PrnQ b many (l ++ shwD leafT keyT many (d + 1) deep q.v) (Tx (d + 1) q.v) W (.returned (.tuple #[])) w4) := Lib.hid ⟨⟨⟨_, rfl⟩, h4, HKP.out.trans hk4⟩, ht⟩
    clear h4 hk4 ht HC HKP cp cd v0 v1 v2 v3 v4 v5
    go_wp2_with fail
    try go_end0
    exact HR.out
  by_cases h6 : q.v.k = 6
  · have he0 : q.v.l = [] := ok.l (by omega)
    have hall : Calls Tryz.prog 57 #[.pointer (some ⟨b, 0, none⟩), .string ⟨#[123, 125]⟩, .int .i64 q.v.e.length, .int .i64 deep, .func (.func 59) #[] #[.pointer (some ⟨n0 + 1, 0, none⟩), .pointer (some ⟨n0, 0, none⟩), .pointer (some ⟨n0 + 2, 0, none⟩)]] w3 (PrnQ b many (l ++ shwD leafT keyT many (d + 1) deep q.v) (Tx (d + 1) q.v) w3) := by
      have e1 : shwD leafT keyT many (d + 1) deep q.v = 123 :: (elemsT many deep (fun x : ByteArray × V => keyT x.1 ++ ([58, 32] ++ shwD leafT keyT many d (deep + 1) x.2)) 0 q.v.e ++ (tailT many deep q.v.e.length ++ [125])) := by rw [shwD, if_neg h5, if_pos h6]
      have ha := all2_any b many l deep (q.v.e.map (fun x : ByteArray × V => keyT x.1 ++ ([58, 32] ++ shwD leafT keyT many d (deep + 1) x.2))) (.pointer (some ⟨n0 + 1, 0, none⟩)) (.pointer (some ⟨n0, 0, none⟩)) (.pointer (some ⟨n0 + 2, 0, none⟩)) (fun i => ∀ y, q.v.e[i]? = some y → Tx d y.2) w3 hp3 (by omega) (by rw [List.length_map]; omega) (1000000000000 - 100 * d) (by omega) (by
          rw [partsT_map]; rw [e1] at hl; simp only [List.length_cons, List.length_append] at hl ⊢; omega) (fun i x hx W2 l' hp2 hk2 hl2 => by
          obtain ⟨y, hy, rfl⟩ := get_map hx
          refine (one2_any many b d deep n0 q HV wt hwt hT (by omega) hg i y hy W2 l' hp2 (hbx.keep hk2) (vat_keep hq3 hk2) (hbw3.trans hk2.below) (by omega)).mono ?_
          rintro e w' ⟨h1, h2⟩
          exact ⟨h1, fun z hz => by rw [hy] at hz; obtain rfl := Option.some.inj hz; exact h2⟩)
      rw [List.length_map, partsT_map, ← e1] at ha
      refine ha.mono ?_
      rintro e w' ⟨h1, h2⟩
      refine ⟨h1, hq.wf, fun h => by omega, fun x hx => (by rw [he0] at hx; cases hx), fun x hx => ?_⟩
      obtain ⟨i, hi, rfl⟩ := List.getElem_of_mem hx
      exact h2 i hi _ (List.getElem?_eq_getElem hi)
    have HC := Lib.hid hall
    have HKP := Lib.hid hkp
    have HW3 := Lib.hid hw3
    clear hall HV hp hq hl hT hbw hbx hkp hbb hp3 hq3 hbw3 hTW hos ok he0 hg hw3 z1 z2
    rw [h6] at v0 HW3 ⊢
    go_enter Tryz.func32, Tryz.ntmps32
    go_upto_region 1 with fail
    rw [← HW3.out, ← hn0]
    clear HW3 hn0
    go_wp2_with fail
    refine HC.out.mono ?_
    rintro e w4 ⟨⟨⟨v, rfl⟩, h4, hk4⟩, ht⟩
    have HR : Hid (PrnQ b many (l ++ shwD leafT keyT many (d + 1) deep q.v) (Tx (d + 1) q.v) W (.returned (.tuple #[])) w4) := Lib.hid ⟨⟨⟨_, rfl⟩, h4, HKP.out.trans hk4⟩, ht⟩
    clear h4 hk4 ht HC HKP cp cd v0 v1 v2 v3 v4 v5
    go_wp2_with fail
    try go_end0
    exact HR.out
  · have e1 : shwD leafT keyT many (d + 1) deep q.v = leafT q.v := by rw [shwD, if_neg h5, if_neg h6]
    rw [e1] at hl ⊢
    have hll : l.length + (leafT q.v).length ≤ 1000000000000 := by omega
    have hx5 : q.v.e = [] := ok.e h6
    have hl5 : q.v.l = [] := ok.l h5
    have hw3d : Below w3.heap.size w3 w3.drew := Gx.drewN_below w3 1 _
    have hk0 : KeepP b w3 w3.drew := KeepP.drew hsz3b
    have hlf := leaf_any d q w3.drew (hTW _ (hbw3.trans hk0.below)) hg hq.wf h5 h6
    unfold Loc.val at hlf
    have HLF := Lib.hid hlf
    have HK0 := Lib.hid (hkp.trans hk0)
    have HP3 := Lib.hid (hp3.keep hw3d)
    have HLL := Lib.hid hll
    have HBX := Lib.hid (hbx.keep hk0)
    have HTX : Hid ((q.v.k = 3 → ∃ t, TextIs q.v.f.toNat t) → Tx (d + 1) q.v) := Lib.hid (fun h => ⟨hq.wf, h, fun x hx => (by rw [hl5] at hx; cases hx), fun x hx => (by rw [hx5] at hx; cases hx)⟩)
    have HW3 := Lib.hid hw3
    have c5 : (q.v.k == 5) = false := by rw [beq_eq_false_iff_ne]; exact h5
    have c6 : (q.v.k == 6) = false := by rw [beq_eq_false_iff_ne]; exact h6
    have c5' : decide (q.v.k = 5) = false := decide_eq_false h5
    have c6' : decide (q.v.k = 6) = false := decide_eq_false h6
    clear hlf hk0 hw3d hll hl5 hx5 e1 HV hp hq hl hT hbw hbx hkp hbb hp3 hq3 hbw3 hTW hos ok hg hw3 z1 z2 h5 h6
    go_enter Tryz.func32, Tryz.ntmps32
    go_upto_region 1 with fail
    rw [← HW3.out, ← hn0]
    clear HW3 hn0
    go_wp2_with fail
    go_region_law (first
      | (go_simp; (with_reducible refine HLF.out.mono ?_); rintro e w4 ⟨rfl, hb4, ht4⟩
         have hk4 : KeepP b w3.drew w4 := KeepP.of_below hb4 (Nat.le_of_lt HP3.out.lt)
         have HK4 := Lib.hid (HK0.out.trans hk4); have cp4 := (HBX.out.keep hk4).cp
         have HWS := Lib.hid (writeStrP b many l ⟨(leafT q.v).toArray⟩ w4 (HP3.out.keep hb4) (Nat.le_trans HLL.out (by decide)))
         have HTX4 := Lib.hid (HTX.out ht4)
         clear hb4 ht4 hk4)
      | (go_simp; (with_reducible refine HWS.out.mono ?_); rintro e w5 ⟨rfl, h5, hb5, ho5, hz5⟩
         have HR : Hid (PrnQ b many (l ++ leafT q.v) (Tx (d + 1) q.v) W (.returned (.tuple #[])) w5) := Lib.hid ⟨⟨⟨_, rfl⟩, h5, HK4.out.trans ⟨hb5, ho5, hz5⟩⟩, HTX4.out⟩
         clear h5 hb5 ho5 hz5))
    all_goals
      go_wp2_with fail
      try go_end0
      exact HR.out
/-- value prints -/
theorem value_any (many : Bool) (b : Nat) : ∀ (d deep : Nat), deep + d ≤ 20 → ValOk many b d deep
  | 0, _, _ => fun _ _ _ _ _ hg => hg.elim
  | d + 1, deep, h => value_step many b d deep (by omega) (value_any many b d (deep + 1) (by omega))
end Go.Proofs.YtldhmfkojaekfaaGreatDoor
namespace Go.Proofs.YtldhmfkojaekfaaGreatDoor
open Go.RowKit Gx

/-- whether a value's own numbers are such, all through -/
inductive WfAll : V → Prop
  | mk (v : V) (h : v.wf) (hl : ∀ x ∈ v.l, WfAll x) (he : ∀ x ∈ v.e, WfAll x.2) : WfAll v
theorem WfAll.own {v : V} (h : WfAll v) : v.wf := by cases h; assumption
theorem WfAll.l {v : V} (h : WfAll v) : ∀ x ∈ v.l, WfAll x := by cases h; assumption
theorem WfAll.e {v : V} (h : WfAll v) : ∀ x ∈ v.e, WfAll x.2 := by cases h; assumption
theorem RowAt.wfAll {w : World} {B : Nat → Prop} {t : Bool} {xs : List (ByteArray × V)} {v : Value} (h : RowAt w B t xs v) : ∀ x ∈ xs, WfAll x.2 := by
  induction h with
  | nil => intro x hx; cases hx
  | row t xs blk off cap sl se hne hn hB hlt hk hc hl he ihl ihe =>
    intro x hx
    obtain ⟨i, hi, rfl⟩ := List.getElem_of_mem hx
    have hi' : xs[i]? = some xs[i] := List.getElem?_eq_getElem hi
    refine .mk _ (hc i _ hi').1 (fun y hy => ?_) (fun y hy => ihe i _ hi' y hy)
    exact ihl i _ hi' (⟨#[]⟩, y) (by simp [lp]; exact hy)
theorem VAt.wfAll {w : World} {B : Nat → Prop} {q : Loc} (h : VAt w B q) : WfAll q.v :=
  .mk _ h.wf (fun x hx => h.l.wfAll (⟨#[]⟩, x) (by simp [lp]; exact hx)) (fun x hx => h.e.wfAll x hx)
end Go.Proofs.YtldhmfkojaekfaaGreatDoor
namespace Go.Proofs.YtldhmfkojaekfaaGreatDoor
open Go.RowKit Gx
set_option maxRecDepth 100000

theorem itoa_le (n : Int) (h0 : -9223372036854775808 ≤ n) (h1 : n ≤ 9223372036854775807) : (Lib.itoa n).length ≤ 20 := by
  unfold Lib.itoa
  split
  · rw [decDigits_text, List.length_cons]
    have := decText_len n.natAbs 19 (by omega) (by omega)
    omega
  · rw [decDigits_text]
    have := decText_len n.toNat 19 (by omega) (by omega)
    omega
theorem fTxt_le (b : Nat) : (fTxt b).length ≤ 30 := by
  by_cases h : ∃ t, TextIs b t
  · obtain ⟨t, ht⟩ := h
    rw [fTxt_is ht]
    exact (text_ch ht).2.2
  · unfold fTxt
    rw [dif_neg h]
    decide
theorem quoteT_le {s : ByteArray} (h : okText s.data.toList) : (quoteT s).length ≤ 6 * s.size + 2 := by
  obtain ⟨h1, h2⟩ := runesT_ok h
  have := quoteOf_le _ h1
  rw [← h2, ← Lib.size_eq] at this
  exact this
theorem leafT_le {d : Nat} {v : V} (h : Gd (d + 1) v) (hw : v.wf) : (leafT v).length ≤ 30000 := by
  have hs := (ownV_zero h.1).2
  unfold leafT
  split
  · decide
  split
  · split <;> decide
  split
  · have := itoa_le v.n hw.n0 hw.n1; omega
  split
  · have := fTxt_le v.f.toNat; omega
  · have := quoteT_le hs.2.2.2; omega
theorem keyT_le {k : ByteArray} (h : KeyOk k) : (keyT k).length ≤ 1000 := by
  unfold keyT
  split
  · rw [← Lib.size_eq]; have := h.1; omega
  · have := quoteT_le h.2; have := h.1; omega
theorem elems_le {α : Type} {many : Bool} {deep C : Nat} {E : α → List UInt8} {n : α → Nat} (hd : deep ≤ 20) : ∀ (l : List α) (i : Nat), (∀ x ∈ l, (E x).length + 50 ≤ C * n x) → (elemsT many deep E i l).length ≤ C * (l.map n).sum
  | [], _, _ => by simp [elemsT]
  | x :: l, i, h => by
    have h1 := h x (by simp)
    have h2 := elems_le (many := many) (deep := deep) hd l (i + 1) (fun y hy => h y (by simp [hy]))
    have h3 : (preT many deep i).length ≤ 43 := by
      unfold preT indentT
      split
      · simp; omega
      · split <;> simp
    have h4 : (postT many).length ≤ 1 := by unfold postT; split <;> simp
    simp only [elemsT, List.length_append, List.map_cons, List.sum_cons, Nat.mul_add]
    omega
theorem shw_le {many : Bool} : ∀ (d deep : Nat) (v : V), deep + d ≤ 20 → Gd d v → WfAll v → (shwD leafT keyT many d deep v).length + 2000 ≤ 40000 * v.nodes
  | 0, _, _, _, h, _ => h.elim
  | d + 1, deep, v, hdd, h, hw => by
    have ht := tailT_le many deep
    rw [nodes_eq v]
    unfold V.parts
    rw [nodesL_app]
    by_cases h5 : v.k = 5
    · have he : v.e = [] := h.ok.e (by omega)
      have h1 := elems_le (many := many) (deep := deep) (C := 40000) (E := shwD leafT keyT many d (deep + 1)) (n := V.nodes) (by omega) v.l 0 (fun x hx => by
        have := shw_le (many := many) d (deep + 1) x (by omega) (h.l x hx) (hw.l x hx); omega)
      have h2 := ht v.l.length
      rw [shwD, if_pos h5, he]
      simp only [List.length_cons, List.length_append, List.length_nil, List.map_nil, nodesL_nil]
      unfold nodesL
      omega
    by_cases h6 : v.k = 6
    · have he : v.l = [] := h.ok.l (by omega)
      have h1 := elems_le (many := many) (deep := deep) (C := 40000) (E := fun x : ByteArray × V => keyT x.1 ++ ([58, 32] ++ shwD leafT keyT many d (deep + 1) x.2)) (n := fun x : ByteArray × V => x.2.nodes) (by omega) v.e 0 (fun x hx => by
        have h1 := shw_le (many := many) d (deep + 1) x.2 (by omega) (h.e x hx) (hw.e x hx)
        have h2 := keyT_le (keyE_short _ _ h.2.1 x hx)
        simp only [List.length_append, List.length_cons, List.length_nil]
        omega)
      have h2 := ht v.e.length
      rw [shwD, if_neg h5, if_pos h6, he]
      simp only [List.length_cons, List.length_append, List.length_nil, nodesL_nil]
      unfold nodesL
      rw [List.map_map]
      have e : (v.e.map (V.nodes ∘ fun x => x.2)) = v.e.map (fun x : ByteArray × V => x.2.nodes) := rfl
      have e2 : (v.e.map (V.nodes ∘ Prod.snd)) = v.e.map (fun x : ByteArray × V => x.2.nodes) := rfl
      first | rw [e2] | rw [e]
      omega
    · have h1 := leafT_le h hw.own
      rw [shwD, if_neg h5, if_neg h6]
      omega
theorem chk_nodes : ∀ (d : Nat) (v : V) (m : Nat), (chk d v m).1 = 0 → (chk d v m).2 = m + v.nodes
  | 0, v, m, h => by simp only [chk] at h; split at h <;> cases h
  | d + 1, v, m, h => by
    simp only [chk] at h ⊢
    by_cases h1 : 2000 < m + 1
    · rw [if_pos h1] at h; cases h
    rw [if_neg h1] at h ⊢
    by_cases h2 : ownV v ≠ 0
    · rw [if_pos h2] at h; exact absurd h h2
    rw [if_neg h2] at h ⊢
    by_cases h3 : keyE none v.e ≠ 0
    · rw [if_pos h3] at h; exact absurd h h3
    rw [if_neg h3] at h ⊢
    rw [nodes_eq v]
    have hall : ∀ (xs : List V) (m : Nat), (chkAll (chk d) xs m).1 = 0 → (chkAll (chk d) xs m).2 = m + nodesL xs := by
      intro xs
      induction xs with
      | nil => intro m _; simp [chkAll, nodesL_nil]
      | cons y ys ih =>
        intro m hm
        have e : chkAll (chk d) (y :: ys) m = if (chk d y m).1 = 0 then chkAll (chk d) ys (chk d y m).2 else chk d y m := rfl
        rw [e] at hm ⊢
        by_cases hy : (chk d y m).1 = 0
        · rw [if_pos hy] at hm ⊢
          rw [ih _ hm, chk_nodes d y m hy, nodesL_cons]; omega
        · rw [if_neg hy] at hm; exact absurd hm hy
    rw [hall _ _ h]; omega
theorem good_nodes {v : V} (h : chkV v = 0) : v.nodes ≤ 2000 := by
  unfold chkV at h
  have h1 := chk_nodes 20 v 0 h
  have h2 := (chk_le 20 v 0 (by omega)).2 h
  omega
theorem good_gd {v : V} (h : chkV v = 0) : Gd 20 v := chk_gd 20 v 0 h
/-- the whole text -/
noncomputable def shwT (many : Bool) (v : V) : List UInt8 := shwD leafT keyT many 20 0 v ++ (if many then [10] else [])
theorem shwT_le {many : Bool} {v : V} (h : chkV v = 0) (hw : WfAll v) : (shwD leafT keyT many 20 0 v).length ≤ 80000000 := by
  have h1 := shw_le (many := many) 20 0 v (by omega) (good_gd h) hw
  have h2 := good_nodes h
  omega
theorem shwT_inj {many : Bool} {v w : V} (h : chkV v = 0) (g : chkV w = 0) (tv : Tx 20 v) (tw : Tx 20 w) : shwT many v = shwT many w ↔ v = w := by
  constructor
  · intro e
    unfold shwT at e
    cases many with
    | true => exact show_tell ⟨good_gd h, tv⟩ ⟨good_gd g, tw⟩ [10] (.inr rfl) e
    | false => exact show_tell ⟨good_gd h, tv⟩ ⟨good_gd g, tw⟩ [] (.inl rfl) e
  · rintro rfl; rfl
theorem shw_ne {many : Bool} {d deep : Nat} {v : V} (h : Gt (d + 1) v) : shwD leafT keyT many (d + 1) deep v ≠ [] := by
  obtain ⟨c, t, h1, -⟩ := shw_head (G := Gt) (K := KeyOk) (many := many) (deep := deep) tells h
  rw [h1]; simp
end Go.Proofs.YtldhmfkojaekfaaGreatDoor
namespace Go.Proofs.YtldhmfkojaekfaaGreatDoor
open Go.RowKit Gx
set_option maxRecDepth 100000


set_option maxHeartbeats 8000000 in
theorem own_0 (n f : Int) (s : ByteArray) (ad bd : Option Addr) (nl ne cl ce : Nat) (w : World) (a : Int) (h0 : 0 ≤ a) (h1 : a < 20) (hf0 : 0 ≤ f) (hf1 : f ≤ 18446744073709551615) (hl : nl ≤ 1000000000000000) (he : ne ≤ 1000000000000000) (hs : s.size ≤ 1000000000000000) (hT : Tabs w) :
  Calls Tryz.prog 50 #[.agg #[.int .i64 0, .int .i64 n, .int .u64 f, .string s, .slice ad nl cl, .slice bd ne ce], .int .i64 a] w (OwnPost (ownE 0 n f s nl ne) w) := by
  have t20 : decide (20 ≤ a) = false := decide_eq_false (by omega)
  by_cases hn : n = 0
  rotate_left
  · have u0 : (n != 0) = true := by simpa using hn
    clear hn
    have e : ownE 0 n f s nl ne = 10 := by simp [ownE, kindBad, u0]
    go_enter Tryz.func50, Tryz.ntmps50
    go_wp2_with fail
    go_quiet (fail)
    go_wp2_with fail
    try go_ret
    exact ⟨by rw [e]; rfl, ((Below.refl _ w).alloc (Nat.le_refl _) _).trans (Gx.drewN_below _ _ _)⟩
  subst hn
  by_cases hf : f = 0
  rotate_left
  · have u2 : (f != 0) = true := by simpa using hf
    clear hf
    have e : ownE 0 0 f s nl ne = 10 := by simp [ownE, kindBad, u2]
    go_enter Tryz.func50, Tryz.ntmps50
    go_wp2_with fail
    go_quiet (fail)
    go_wp2_with fail
    try go_ret
    exact ⟨by rw [e]; rfl, ((Below.refl _ w).alloc (Nat.le_refl _) _).trans (Gx.drewN_below _ _ _)⟩
  subst hf
  clear hf0 hf1
  by_cases hse : s.toList.isEmpty = true
  rotate_left
  · have v0 : s.toList.isEmpty = false := by simpa using hse
    have v1 : (!s.toList.isEmpty) = true := by rw [v0]; rfl
    clear hse
    have e : ownE 0 0 0 s nl ne = 10 := by simp [ownE, kindBad, nan0, v0]
    go_enter Tryz.func50, Tryz.ntmps50
    go_wp2_with fail
    go_quiet (fail)
    go_wp2_with fail
    try go_ret
    exact ⟨by rw [e]; rfl, ((Below.refl _ w).alloc (Nat.le_refl _) _).trans (Gx.drewN_below _ _ _)⟩
  obtain rfl := empty_of hse
  clear hse hs
  by_cases hnl : nl = 0
  rotate_left
  · have v2 : 0 < nl := by omega
    clear hnl
    have e : ownE 0 0 0 ⟨#[]⟩ nl ne = 10 := by simp [ownE, kindBad, nan0, empty_bad, empty_size, v2]
    go_enter Tryz.func50, Tryz.ntmps50
    go_wp2_with fail
    go_quiet (fail)
    go_wp2_with fail
    try go_ret
    exact ⟨by rw [e]; rfl, ((Below.refl _ w).alloc (Nat.le_refl _) _).trans (Gx.drewN_below _ _ _)⟩
  subst hnl
  clear hl
  by_cases hne : ne = 0
  rotate_left
  · have v3 : 0 < ne := by omega
    clear hne
    have e : ownE 0 0 0 ⟨#[]⟩ 0 ne = 10 := by simp [ownE, kindBad, nan0, empty_bad, empty_size, v3]
    go_enter Tryz.func50, Tryz.ntmps50
    go_wp2_with fail
    go_quiet (fail)
    go_wp2_with fail
    try go_ret
    exact ⟨by rw [e]; rfl, ((Below.refl _ w).alloc (Nat.le_refl _) _).trans (Gx.drewN_below _ _ _)⟩
  subst hne
  clear he
  have hTT : ∀ nq, Tabs ((w.alloc (.cells #[.int .i64 0, .int .i64 0, .int .u64 0, .string ⟨#[]⟩, .slice ad 0 cl, .slice bd 0 ce] 26)).drewN nq) := fun nq => hT.keep (((Below.refl _ w).alloc (Nat.le_refl _) _).trans (Gx.drewN_below _ nq _))
  have HTT := Lib.hid hTT
  clear hTT hT
  go_enter Tryz.func50, Tryz.ntmps50
  go_wp2_with fail
  go_quiet (fail)
  go_wp2_with fail
  refine (bad_any ⟨#[]⟩ _ (HTT.out nq) (by first | omega | decide)).mono ?_
  rintro e w2 ⟨b, rfl, hb, hbw⟩
  have HBW := Lib.hid (Below.trans (((Below.refl w.heap.size w).alloc (Nat.le_refl _) _).trans (Gx.drewN_below _ nq _)) (hbw.mono (by simp)))
  clear hbw
  by_cases hok : okText (ByteArray.mk #[]).data.toList
  · have hlt := hb.2 hok
    have e : ownE 0 0 0 ⟨#[]⟩ 0 0 = 0 := by simp [ownE, kindBad, hok, nan0, empty_bad, empty_size]
    have t1 : decide (0 ≤ b) = false := decide_eq_false (by omega)
    clear hb hok
    go_wp2_with fail
    try go_ret
    exact ⟨by rw [e]; rfl, HBW.out⟩
  · have hlt : 0 ≤ b := Int.not_lt.1 (fun h => hok (hb.1 h))
    have e : ownE 0 0 0 ⟨#[]⟩ 0 0 = 3 := by simp [ownE, kindBad, hok, nan0, empty_bad, empty_size]
    have t1 : decide (0 ≤ b) = true := decide_eq_true hlt
    clear hb hok
    go_wp2_with fail
    try go_ret
    exact ⟨by rw [e]; rfl, HBW.out⟩
set_option maxHeartbeats 8000000 in
theorem own_1 (n f : Int) (s : ByteArray) (ad bd : Option Addr) (nl ne cl ce : Nat) (w : World) (a : Int) (h0 : 0 ≤ a) (h1 : a < 20) (hf0 : 0 ≤ f) (hf1 : f ≤ 18446744073709551615) (hl : nl ≤ 1000000000000000) (he : ne ≤ 1000000000000000) (hs : s.size ≤ 1000000000000000) (hT : Tabs w) :
  Calls Tryz.prog 50 #[.agg #[.int .i64 1, .int .i64 n, .int .u64 f, .string s, .slice ad nl cl, .slice bd ne ce], .int .i64 a] w (OwnPost (ownE 1 n f s nl ne) w) := by
  have t20 : decide (20 ≤ a) = false := decide_eq_false (by omega)
  by_cases hn1 : n = 0 ∨ n = 1
  rotate_left
  · have u0 : (n != 0) = true := by simp; omega
    have u1 : (n != 1) = true := by simp; omega
    clear hn1
    have e : ownE 1 n f s nl ne = 10 := by simp [ownE, kindBad, u0, u1]
    go_enter Tryz.func50, Tryz.ntmps50
    go_wp2_with fail
    go_quiet (fail)
    go_wp2_with fail
    try go_ret
    exact ⟨by rw [e]; rfl, ((Below.refl _ w).alloc (Nat.le_refl _) _).trans (Gx.drewN_below _ _ _)⟩
  have hnn : ((n != 0) = true ∧ (n != 1) = false) ∨ (n != 0) = false := by rcases hn1 with rfl | rfl <;> simp
  clear hn1
  by_cases hf : f = 0
  rotate_left
  · rcases hnn with ⟨u0, u1⟩ | u0
    · have u2 : (f != 0) = true := by simpa using hf
      clear hf
      have e : ownE 1 n f s nl ne = 10 := by simp [ownE, kindBad, u0, u2, u1]
      go_enter Tryz.func50, Tryz.ntmps50
      go_wp2_with fail
      go_quiet (fail)
      go_wp2_with fail
      try go_ret
      exact ⟨by rw [e]; rfl, ((Below.refl _ w).alloc (Nat.le_refl _) _).trans (Gx.drewN_below _ _ _)⟩
    · have u2 : (f != 0) = true := by simpa using hf
      clear hf
      have e : ownE 1 n f s nl ne = 10 := by simp [ownE, kindBad, u0, u2]
      go_enter Tryz.func50, Tryz.ntmps50
      go_wp2_with fail
      go_quiet (fail)
      go_wp2_with fail
      try go_ret
      exact ⟨by rw [e]; rfl, ((Below.refl _ w).alloc (Nat.le_refl _) _).trans (Gx.drewN_below _ _ _)⟩
  subst hf
  clear hf0 hf1
  by_cases hse : s.toList.isEmpty = true
  rotate_left
  · have v0 : s.toList.isEmpty = false := by simpa using hse
    have v1 : (!s.toList.isEmpty) = true := by rw [v0]; rfl
    clear hse
    rcases hnn with ⟨u0, u1⟩ | u0
    · skip
      have e : ownE 1 n 0 s nl ne = 10 := by simp [ownE, kindBad, nan0, v0, u0, u1]
      go_enter Tryz.func50, Tryz.ntmps50
      go_wp2_with fail
      go_quiet (fail)
      go_wp2_with fail
      try go_ret
      exact ⟨by rw [e]; rfl, ((Below.refl _ w).alloc (Nat.le_refl _) _).trans (Gx.drewN_below _ _ _)⟩
    · skip
      have e : ownE 1 n 0 s nl ne = 10 := by simp [ownE, kindBad, nan0, v0, u0]
      go_enter Tryz.func50, Tryz.ntmps50
      go_wp2_with fail
      go_quiet (fail)
      go_wp2_with fail
      try go_ret
      exact ⟨by rw [e]; rfl, ((Below.refl _ w).alloc (Nat.le_refl _) _).trans (Gx.drewN_below _ _ _)⟩
  obtain rfl := empty_of hse
  clear hse hs
  by_cases hnl : nl = 0
  rotate_left
  · have v2 : 0 < nl := by omega
    clear hnl
    rcases hnn with ⟨u0, u1⟩ | u0
    · skip
      have e : ownE 1 n 0 ⟨#[]⟩ nl ne = 10 := by simp [ownE, kindBad, nan0, empty_bad, empty_size, v2, u0, u1]
      go_enter Tryz.func50, Tryz.ntmps50
      go_wp2_with fail
      go_quiet (fail)
      go_wp2_with fail
      try go_ret
      exact ⟨by rw [e]; rfl, ((Below.refl _ w).alloc (Nat.le_refl _) _).trans (Gx.drewN_below _ _ _)⟩
    · skip
      have e : ownE 1 n 0 ⟨#[]⟩ nl ne = 10 := by simp [ownE, kindBad, nan0, empty_bad, empty_size, v2, u0]
      go_enter Tryz.func50, Tryz.ntmps50
      go_wp2_with fail
      go_quiet (fail)
      go_wp2_with fail
      try go_ret
      exact ⟨by rw [e]; rfl, ((Below.refl _ w).alloc (Nat.le_refl _) _).trans (Gx.drewN_below _ _ _)⟩
  subst hnl
  clear hl
  by_cases hne : ne = 0
  rotate_left
  · have v3 : 0 < ne := by omega
    clear hne
    rcases hnn with ⟨u0, u1⟩ | u0
    · skip
      have e : ownE 1 n 0 ⟨#[]⟩ 0 ne = 10 := by simp [ownE, kindBad, nan0, empty_bad, empty_size, v3, u0, u1]
      go_enter Tryz.func50, Tryz.ntmps50
      go_wp2_with fail
      go_quiet (fail)
      go_wp2_with fail
      try go_ret
      exact ⟨by rw [e]; rfl, ((Below.refl _ w).alloc (Nat.le_refl _) _).trans (Gx.drewN_below _ _ _)⟩
    · skip
      have e : ownE 1 n 0 ⟨#[]⟩ 0 ne = 10 := by simp [ownE, kindBad, nan0, empty_bad, empty_size, v3, u0]
      go_enter Tryz.func50, Tryz.ntmps50
      go_wp2_with fail
      go_quiet (fail)
      go_wp2_with fail
      try go_ret
      exact ⟨by rw [e]; rfl, ((Below.refl _ w).alloc (Nat.le_refl _) _).trans (Gx.drewN_below _ _ _)⟩
  subst hne
  clear he
  rcases hnn with ⟨u0, u1⟩ | u0
  · skip
    have hTT : ∀ nq, Tabs ((w.alloc (.cells #[.int .i64 1, .int .i64 n, .int .u64 0, .string ⟨#[]⟩, .slice ad 0 cl, .slice bd 0 ce] 26)).drewN nq) := fun nq => hT.keep (((Below.refl _ w).alloc (Nat.le_refl _) _).trans (Gx.drewN_below _ nq _))
    have HTT := Lib.hid hTT
    clear hTT hT
    go_enter Tryz.func50, Tryz.ntmps50
    go_wp2_with fail
    go_quiet (fail)
    go_wp2_with fail
    refine (bad_any ⟨#[]⟩ _ (HTT.out nq) (by first | omega | decide)).mono ?_
    rintro e w2 ⟨b, rfl, hb, hbw⟩
    have HBW := Lib.hid (Below.trans (((Below.refl w.heap.size w).alloc (Nat.le_refl _) _).trans (Gx.drewN_below _ nq _)) (hbw.mono (by simp)))
    clear hbw
    by_cases hok : okText (ByteArray.mk #[]).data.toList
    · have hlt := hb.2 hok
      have e : ownE 1 n 0 ⟨#[]⟩ 0 0 = 0 := by simp [ownE, kindBad, hok, nan0, empty_bad, empty_size, u0, u1]
      have t1 : decide (0 ≤ b) = false := decide_eq_false (by omega)
      clear hb hok
      go_wp2_with fail
      try go_ret
      exact ⟨by rw [e]; rfl, HBW.out⟩
    · have hlt : 0 ≤ b := Int.not_lt.1 (fun h => hok (hb.1 h))
      have e : ownE 1 n 0 ⟨#[]⟩ 0 0 = 3 := by simp [ownE, kindBad, hok, nan0, empty_bad, empty_size, u0, u1]
      have t1 : decide (0 ≤ b) = true := decide_eq_true hlt
      clear hb hok
      go_wp2_with fail
      try go_ret
      exact ⟨by rw [e]; rfl, HBW.out⟩
  · skip
    have hTT : ∀ nq, Tabs ((w.alloc (.cells #[.int .i64 1, .int .i64 n, .int .u64 0, .string ⟨#[]⟩, .slice ad 0 cl, .slice bd 0 ce] 26)).drewN nq) := fun nq => hT.keep (((Below.refl _ w).alloc (Nat.le_refl _) _).trans (Gx.drewN_below _ nq _))
    have HTT := Lib.hid hTT
    clear hTT hT
    go_enter Tryz.func50, Tryz.ntmps50
    go_wp2_with fail
    go_quiet (fail)
    go_wp2_with fail
    refine (bad_any ⟨#[]⟩ _ (HTT.out nq) (by first | omega | decide)).mono ?_
    rintro e w2 ⟨b, rfl, hb, hbw⟩
    have HBW := Lib.hid (Below.trans (((Below.refl w.heap.size w).alloc (Nat.le_refl _) _).trans (Gx.drewN_below _ nq _)) (hbw.mono (by simp)))
    clear hbw
    by_cases hok : okText (ByteArray.mk #[]).data.toList
    · have hlt := hb.2 hok
      have e : ownE 1 n 0 ⟨#[]⟩ 0 0 = 0 := by simp [ownE, kindBad, hok, nan0, empty_bad, empty_size, u0]
      have t1 : decide (0 ≤ b) = false := decide_eq_false (by omega)
      clear hb hok
      go_wp2_with fail
      try go_ret
      exact ⟨by rw [e]; rfl, HBW.out⟩
    · have hlt : 0 ≤ b := Int.not_lt.1 (fun h => hok (hb.1 h))
      have e : ownE 1 n 0 ⟨#[]⟩ 0 0 = 3 := by simp [ownE, kindBad, hok, nan0, empty_bad, empty_size, u0]
      have t1 : decide (0 ≤ b) = true := decide_eq_true hlt
      clear hb hok
      go_wp2_with fail
      try go_ret
      exact ⟨by rw [e]; rfl, HBW.out⟩
set_option maxHeartbeats 8000000 in
theorem own_4 (n f : Int) (s : ByteArray) (ad bd : Option Addr) (nl ne cl ce : Nat) (w : World) (a : Int) (h0 : 0 ≤ a) (h1 : a < 20) (hf0 : 0 ≤ f) (hf1 : f ≤ 18446744073709551615) (hl : nl ≤ 1000000000000000) (he : ne ≤ 1000000000000000) (hs : s.size ≤ 1000000000000000) (hT : Tabs w) :
  Calls Tryz.prog 50 #[.agg #[.int .i64 4, .int .i64 n, .int .u64 f, .string s, .slice ad nl cl, .slice bd ne ce], .int .i64 a] w (OwnPost (ownE 4 n f s nl ne) w) := by
  have t20 : decide (20 ≤ a) = false := decide_eq_false (by omega)
  by_cases hn : n = 0
  rotate_left
  · have u0 : (n != 0) = true := by simpa using hn
    clear hn
    have e : ownE 4 n f s nl ne = 10 := by simp [ownE, kindBad, u0]
    go_enter Tryz.func50, Tryz.ntmps50
    go_wp2_with fail
    go_quiet (fail)
    go_wp2_with fail
    try go_ret
    exact ⟨by rw [e]; rfl, ((Below.refl _ w).alloc (Nat.le_refl _) _).trans (Gx.drewN_below _ _ _)⟩
  subst hn
  by_cases hf : f = 0
  rotate_left
  · have u2 : (f != 0) = true := by simpa using hf
    clear hf
    have e : ownE 4 0 f s nl ne = 10 := by simp [ownE, kindBad, u2]
    go_enter Tryz.func50, Tryz.ntmps50
    go_wp2_with fail
    go_quiet (fail)
    go_wp2_with fail
    try go_ret
    exact ⟨by rw [e]; rfl, ((Below.refl _ w).alloc (Nat.le_refl _) _).trans (Gx.drewN_below _ _ _)⟩
  subst hf
  clear hf0 hf1
  by_cases hnl : nl = 0
  rotate_left
  · have v2 : 0 < nl := by omega
    clear hnl
    have e : ownE 4 0 0 s nl ne = 10 := by simp [ownE, kindBad, nan0, v2]
    go_enter Tryz.func50, Tryz.ntmps50
    go_wp2_with fail
    go_quiet (fail)
    go_wp2_with fail
    try go_ret
    exact ⟨by rw [e]; rfl, ((Below.refl _ w).alloc (Nat.le_refl _) _).trans (Gx.drewN_below _ _ _)⟩
  subst hnl
  clear hl
  by_cases hne : ne = 0
  rotate_left
  · have v3 : 0 < ne := by omega
    clear hne
    have e : ownE 4 0 0 s 0 ne = 10 := by simp [ownE, kindBad, nan0, v3]
    go_enter Tryz.func50, Tryz.ntmps50
    go_wp2_with fail
    go_quiet (fail)
    go_wp2_with fail
    try go_ret
    exact ⟨by rw [e]; rfl, ((Below.refl _ w).alloc (Nat.le_refl _) _).trans (Gx.drewN_below _ _ _)⟩
  subst hne
  clear he
  by_cases hbig : 4000 < s.size
  · have v4 : decide ((4000 : Int) < (s.size : Int)) = true := decide_eq_true (by omega)
    have e : ownE 4 0 0 s 0 0 = 2 := by simp [ownE, kindBad, nan0, hbig]
    go_enter Tryz.func50, Tryz.ntmps50
    go_wp2_with fail
    go_quiet (fail)
    go_wp2_with fail
    try go_ret
    exact ⟨by rw [e]; rfl, ((Below.refl _ w).alloc (Nat.le_refl _) _).trans (Gx.drewN_below _ _ _)⟩
  have v4 : decide ((4000 : Int) < (s.size : Int)) = false := decide_eq_false (by omega)
  have hTT : ∀ nq, Tabs ((w.alloc (.cells #[.int .i64 4, .int .i64 0, .int .u64 0, .string s, .slice ad 0 cl, .slice bd 0 ce] 26)).drewN nq) := fun nq => hT.keep (((Below.refl _ w).alloc (Nat.le_refl _) _).trans (Gx.drewN_below _ nq _))
  have HTT := Lib.hid hTT
  clear hTT hT
  go_enter Tryz.func50, Tryz.ntmps50
  go_wp2_with fail
  go_quiet (fail)
  go_wp2_with fail
  refine (bad_any s _ (HTT.out nq) (by first | omega | decide)).mono ?_
  rintro e w2 ⟨b, rfl, hb, hbw⟩
  have HBW := Lib.hid (Below.trans (((Below.refl w.heap.size w).alloc (Nat.le_refl _) _).trans (Gx.drewN_below _ nq _)) (hbw.mono (by simp)))
  clear hbw
  by_cases hok : okText s.data.toList
  · have hlt := hb.2 hok
    have e : ownE 4 0 0 s 0 0 = 0 := by simp [ownE, kindBad, hok, nan0, hbig]
    have t1 : decide (0 ≤ b) = false := decide_eq_false (by omega)
    clear hb hok
    go_wp2_with fail
    try go_ret
    exact ⟨by rw [e]; rfl, HBW.out⟩
  · have hlt : 0 ≤ b := Int.not_lt.1 (fun h => hok (hb.1 h))
    have e : ownE 4 0 0 s 0 0 = 3 := by simp [ownE, kindBad, hok, nan0, hbig]
    have t1 : decide (0 ≤ b) = true := decide_eq_true hlt
    clear hb hok
    go_wp2_with fail
    try go_ret
    exact ⟨by rw [e]; rfl, HBW.out⟩
end Go.Proofs.YtldhmfkojaekfaaGreatDoor
namespace Go.Proofs.YtldhmfkojaekfaaGreatDoor
open Go.RowKit Gx
set_option maxRecDepth 100000


set_option maxHeartbeats 8000000 in
theorem own_3 (n f : Int) (s : ByteArray) (ad bd : Option Addr) (nl ne cl ce : Nat) (w : World) (a : Int) (h0 : 0 ≤ a) (h1 : a < 20) (hf0 : 0 ≤ f) (hf1 : f ≤ 18446744073709551615) (hl : nl ≤ 1000000000000000) (he : ne ≤ 1000000000000000) (hs : s.size ≤ 1000000000000000) (hT : Tabs w) :
  Calls Tryz.prog 50 #[.agg #[.int .i64 3, .int .i64 n, .int .u64 f, .string s, .slice ad nl cl, .slice bd ne ce], .int .i64 a] w (OwnPost (ownE 3 n f s nl ne) w) := by
  have t20 : decide (20 ≤ a) = false := decide_eq_false (by omega)
  by_cases hn : n = 0
  rotate_left
  · have u0 : (n != 0) = true := by simpa using hn
    clear hn
    have e : ownE 3 n f s nl ne = 10 := by simp [ownE, kindBad, u0]
    go_enter Tryz.func50, Tryz.ntmps50
    go_wp2_with fail
    go_quiet (fail)
    go_wp2_with fail
    try go_ret
    exact ⟨by rw [e]; rfl, ((Below.refl _ w).alloc (Nat.le_refl _) _).trans (Gx.drewN_below _ _ _)⟩
  subst hn
  obtain ⟨E, hE⟩ : ∃ E, bits .and .u64 (f / 4503599627370496) 2047 = E := ⟨_, rfl⟩
  obtain ⟨G, hG⟩ : ∃ G, bits .and .u64 f 4503599627370495 = G := ⟨_, rfl⟩
  have hnan := nan_of hE hG
  by_cases hnb : nanBad f = true
  · have hq : (E == 2047) = true ∧ (G != 0) = true ∧ (f != 9221120237041090561) = true := by rw [hnan] at hnb; simpa [and_assoc] using hnb
    obtain ⟨u1, u2, u3⟩ := hq
    clear hnan
    have e : ownE 3 0 f s nl ne = 10 := by simp [ownE, kindBad, hnb]
    clear hnb
    go_enter Tryz.func50, Tryz.ntmps50
    go_wp2_with fail
    go_quiet (fail)
    go_wp2_with fail
    try go_ret
    exact ⟨by rw [e]; rfl, ((Below.refl _ w).alloc (Nat.le_refl _) _).trans (Gx.drewN_below _ _ _)⟩
  have hnf : nanBad f = false := by simpa using hnb
  have hq : (E == 2047) = false ∨ ((E == 2047) = true ∧ (G != 0) = false) ∨ ((E == 2047) = true ∧ (G != 0) = true ∧ (f != 9221120237041090561) = false) := by
    rw [hnan] at hnf
    revert hnf
    generalize (E == 2047) = x1
    generalize (G != 0) = x2
    generalize (f != 9221120237041090561) = x3
    revert x1 x2 x3; decide
  have HNF := Lib.hid hnf
  clear hnb hnan hnf
  by_cases hse : s.toList.isEmpty = true
  rotate_left
  · have v0 : s.toList.isEmpty = false := by simpa using hse
    have v1 : (!s.toList.isEmpty) = true := by rw [v0]; rfl
    clear hse
    rcases hq with u1 | ⟨u1, u2⟩ | ⟨u1, u2, u3⟩
    · skip
      have e : ownE 3 0 f s nl ne = 10 := by simp [ownE, kindBad, HNF.out, v0]
      go_enter Tryz.func50, Tryz.ntmps50
      go_wp2_with fail
      go_quiet (fail)
      go_wp2_with fail
      try go_ret
      exact ⟨by rw [e]; rfl, ((Below.refl _ w).alloc (Nat.le_refl _) _).trans (Gx.drewN_below _ _ _)⟩
    · skip
      have e : ownE 3 0 f s nl ne = 10 := by simp [ownE, kindBad, HNF.out, v0]
      go_enter Tryz.func50, Tryz.ntmps50
      go_wp2_with fail
      go_quiet (fail)
      go_wp2_with fail
      try go_ret
      exact ⟨by rw [e]; rfl, ((Below.refl _ w).alloc (Nat.le_refl _) _).trans (Gx.drewN_below _ _ _)⟩
    · skip
      have e : ownE 3 0 f s nl ne = 10 := by simp [ownE, kindBad, HNF.out, v0]
      go_enter Tryz.func50, Tryz.ntmps50
      go_wp2_with fail
      go_quiet (fail)
      go_wp2_with fail
      try go_ret
      exact ⟨by rw [e]; rfl, ((Below.refl _ w).alloc (Nat.le_refl _) _).trans (Gx.drewN_below _ _ _)⟩
  obtain rfl := empty_of hse
  clear hse hs
  by_cases hnl : nl = 0
  rotate_left
  · have v2 : 0 < nl := by omega
    clear hnl
    rcases hq with u1 | ⟨u1, u2⟩ | ⟨u1, u2, u3⟩
    · skip
      have e : ownE 3 0 f ⟨#[]⟩ nl ne = 10 := by simp [ownE, kindBad, HNF.out, empty_bad, empty_size, v2]
      go_enter Tryz.func50, Tryz.ntmps50
      go_wp2_with fail
      go_quiet (fail)
      go_wp2_with fail
      try go_ret
      exact ⟨by rw [e]; rfl, ((Below.refl _ w).alloc (Nat.le_refl _) _).trans (Gx.drewN_below _ _ _)⟩
    · skip
      have e : ownE 3 0 f ⟨#[]⟩ nl ne = 10 := by simp [ownE, kindBad, HNF.out, empty_bad, empty_size, v2]
      go_enter Tryz.func50, Tryz.ntmps50
      go_wp2_with fail
      go_quiet (fail)
      go_wp2_with fail
      try go_ret
      exact ⟨by rw [e]; rfl, ((Below.refl _ w).alloc (Nat.le_refl _) _).trans (Gx.drewN_below _ _ _)⟩
    · skip
      have e : ownE 3 0 f ⟨#[]⟩ nl ne = 10 := by simp [ownE, kindBad, HNF.out, empty_bad, empty_size, v2]
      go_enter Tryz.func50, Tryz.ntmps50
      go_wp2_with fail
      go_quiet (fail)
      go_wp2_with fail
      try go_ret
      exact ⟨by rw [e]; rfl, ((Below.refl _ w).alloc (Nat.le_refl _) _).trans (Gx.drewN_below _ _ _)⟩
  subst hnl
  clear hl
  by_cases hne : ne = 0
  rotate_left
  · have v3 : 0 < ne := by omega
    clear hne
    rcases hq with u1 | ⟨u1, u2⟩ | ⟨u1, u2, u3⟩
    · skip
      have e : ownE 3 0 f ⟨#[]⟩ 0 ne = 10 := by simp [ownE, kindBad, HNF.out, empty_bad, empty_size, v3]
      go_enter Tryz.func50, Tryz.ntmps50
      go_wp2_with fail
      go_quiet (fail)
      go_wp2_with fail
      try go_ret
      exact ⟨by rw [e]; rfl, ((Below.refl _ w).alloc (Nat.le_refl _) _).trans (Gx.drewN_below _ _ _)⟩
    · skip
      have e : ownE 3 0 f ⟨#[]⟩ 0 ne = 10 := by simp [ownE, kindBad, HNF.out, empty_bad, empty_size, v3]
      go_enter Tryz.func50, Tryz.ntmps50
      go_wp2_with fail
      go_quiet (fail)
      go_wp2_with fail
      try go_ret
      exact ⟨by rw [e]; rfl, ((Below.refl _ w).alloc (Nat.le_refl _) _).trans (Gx.drewN_below _ _ _)⟩
    · skip
      have e : ownE 3 0 f ⟨#[]⟩ 0 ne = 10 := by simp [ownE, kindBad, HNF.out, empty_bad, empty_size, v3]
      go_enter Tryz.func50, Tryz.ntmps50
      go_wp2_with fail
      go_quiet (fail)
      go_wp2_with fail
      try go_ret
      exact ⟨by rw [e]; rfl, ((Below.refl _ w).alloc (Nat.le_refl _) _).trans (Gx.drewN_below _ _ _)⟩
  subst hne
  clear he
  rcases hq with u1 | ⟨u1, u2⟩ | ⟨u1, u2, u3⟩
  · skip
    have hTT : ∀ nq, Tabs ((w.alloc (.cells #[.int .i64 3, .int .i64 0, .int .u64 f, .string ⟨#[]⟩, .slice ad 0 cl, .slice bd 0 ce] 26)).drewN nq) := fun nq => hT.keep (((Below.refl _ w).alloc (Nat.le_refl _) _).trans (Gx.drewN_below _ nq _))
    have HTT := Lib.hid hTT
    clear hTT hT
    go_enter Tryz.func50, Tryz.ntmps50
    go_wp2_with fail
    go_quiet (fail)
    go_wp2_with fail
    refine (bad_any ⟨#[]⟩ _ (HTT.out nq) (by first | omega | decide)).mono ?_
    rintro e w2 ⟨b, rfl, hb, hbw⟩
    have HBW := Lib.hid (Below.trans (((Below.refl w.heap.size w).alloc (Nat.le_refl _) _).trans (Gx.drewN_below _ nq _)) (hbw.mono (by simp)))
    clear hbw
    by_cases hok : okText (ByteArray.mk #[]).data.toList
    · have hlt := hb.2 hok
      have e : ownE 3 0 f ⟨#[]⟩ 0 0 = 0 := by simp [ownE, kindBad, hok, HNF.out, empty_bad, empty_size]
      have t1 : decide (0 ≤ b) = false := decide_eq_false (by omega)
      clear hb hok
      go_wp2_with fail
      try go_ret
      exact ⟨by rw [e]; rfl, HBW.out⟩
    · have hlt : 0 ≤ b := Int.not_lt.1 (fun h => hok (hb.1 h))
      have e : ownE 3 0 f ⟨#[]⟩ 0 0 = 3 := by simp [ownE, kindBad, hok, HNF.out, empty_bad, empty_size]
      have t1 : decide (0 ≤ b) = true := decide_eq_true hlt
      clear hb hok
      go_wp2_with fail
      try go_ret
      exact ⟨by rw [e]; rfl, HBW.out⟩
  · skip
    have hTT : ∀ nq, Tabs ((w.alloc (.cells #[.int .i64 3, .int .i64 0, .int .u64 f, .string ⟨#[]⟩, .slice ad 0 cl, .slice bd 0 ce] 26)).drewN nq) := fun nq => hT.keep (((Below.refl _ w).alloc (Nat.le_refl _) _).trans (Gx.drewN_below _ nq _))
    have HTT := Lib.hid hTT
    clear hTT hT
    go_enter Tryz.func50, Tryz.ntmps50
    go_wp2_with fail
    go_quiet (fail)
    go_wp2_with fail
    refine (bad_any ⟨#[]⟩ _ (HTT.out nq) (by first | omega | decide)).mono ?_
    rintro e w2 ⟨b, rfl, hb, hbw⟩
    have HBW := Lib.hid (Below.trans (((Below.refl w.heap.size w).alloc (Nat.le_refl _) _).trans (Gx.drewN_below _ nq _)) (hbw.mono (by simp)))
    clear hbw
    by_cases hok : okText (ByteArray.mk #[]).data.toList
    · have hlt := hb.2 hok
      have e : ownE 3 0 f ⟨#[]⟩ 0 0 = 0 := by simp [ownE, kindBad, hok, HNF.out, empty_bad, empty_size]
      have t1 : decide (0 ≤ b) = false := decide_eq_false (by omega)
      clear hb hok
      go_wp2_with fail
      try go_ret
      exact ⟨by rw [e]; rfl, HBW.out⟩
    · have hlt : 0 ≤ b := Int.not_lt.1 (fun h => hok (hb.1 h))
      have e : ownE 3 0 f ⟨#[]⟩ 0 0 = 3 := by simp [ownE, kindBad, hok, HNF.out, empty_bad, empty_size]
      have t1 : decide (0 ≤ b) = true := decide_eq_true hlt
      clear hb hok
      go_wp2_with fail
      try go_ret
      exact ⟨by rw [e]; rfl, HBW.out⟩
  · skip
    have hTT : ∀ nq, Tabs ((w.alloc (.cells #[.int .i64 3, .int .i64 0, .int .u64 f, .string ⟨#[]⟩, .slice ad 0 cl, .slice bd 0 ce] 26)).drewN nq) := fun nq => hT.keep (((Below.refl _ w).alloc (Nat.le_refl _) _).trans (Gx.drewN_below _ nq _))
    have HTT := Lib.hid hTT
    clear hTT hT
    go_enter Tryz.func50, Tryz.ntmps50
    go_wp2_with fail
    go_quiet (fail)
    go_wp2_with fail
    refine (bad_any ⟨#[]⟩ _ (HTT.out nq) (by first | omega | decide)).mono ?_
    rintro e w2 ⟨b, rfl, hb, hbw⟩
    have HBW := Lib.hid (Below.trans (((Below.refl w.heap.size w).alloc (Nat.le_refl _) _).trans (Gx.drewN_below _ nq _)) (hbw.mono (by simp)))
    clear hbw
    by_cases hok : okText (ByteArray.mk #[]).data.toList
    · have hlt := hb.2 hok
      have e : ownE 3 0 f ⟨#[]⟩ 0 0 = 0 := by simp [ownE, kindBad, hok, HNF.out, empty_bad, empty_size]
      have t1 : decide (0 ≤ b) = false := decide_eq_false (by omega)
      clear hb hok
      go_wp2_with fail
      try go_ret
      exact ⟨by rw [e]; rfl, HBW.out⟩
    · have hlt : 0 ≤ b := Int.not_lt.1 (fun h => hok (hb.1 h))
      have e : ownE 3 0 f ⟨#[]⟩ 0 0 = 3 := by simp [ownE, kindBad, hok, HNF.out, empty_bad, empty_size]
      have t1 : decide (0 ≤ b) = true := decide_eq_true hlt
      clear hb hok
      go_wp2_with fail
      try go_ret
      exact ⟨by rw [e]; rfl, HBW.out⟩
end Go.Proofs.YtldhmfkojaekfaaGreatDoor
namespace Go.Proofs.YtldhmfkojaekfaaGreatDoor
open Go.RowKit Gx
set_option maxRecDepth 100000


set_option maxHeartbeats 8000000 in
theorem own_2 (n f : Int) (s : ByteArray) (ad bd : Option Addr) (nl ne cl ce : Nat) (w : World) (a : Int) (h0 : 0 ≤ a) (h1 : a < 20) (hf0 : 0 ≤ f) (hf1 : f ≤ 18446744073709551615) (hl : nl ≤ 1000000000000000) (he : ne ≤ 1000000000000000) (hs : s.size ≤ 1000000000000000) (hT : Tabs w) :
  Calls Tryz.prog 50 #[.agg #[.int .i64 2, .int .i64 n, .int .u64 f, .string s, .slice ad nl cl, .slice bd ne ce], .int .i64 a] w (OwnPost (ownE 2 n f s nl ne) w) := by
  have t20 : decide (20 ≤ a) = false := decide_eq_false (by omega)
  by_cases hf : f = 0
  rotate_left
  · have u2 : (f != 0) = true := by simpa using hf
    clear hf
    have e : ownE 2 n f s nl ne = 10 := by simp [ownE, kindBad, u2]
    go_enter Tryz.func50, Tryz.ntmps50
    go_wp2_with fail
    go_quiet (fail)
    go_wp2_with fail
    try go_ret
    exact ⟨by rw [e]; rfl, ((Below.refl _ w).alloc (Nat.le_refl _) _).trans (Gx.drewN_below _ _ _)⟩
  subst hf
  clear hf0 hf1
  by_cases hse : s.toList.isEmpty = true
  rotate_left
  · have v0 : s.toList.isEmpty = false := by simpa using hse
    have v1 : (!s.toList.isEmpty) = true := by rw [v0]; rfl
    clear hse
    have e : ownE 2 n 0 s nl ne = 10 := by simp [ownE, kindBad, nan0, v0]
    go_enter Tryz.func50, Tryz.ntmps50
    go_wp2_with fail
    go_quiet (fail)
    go_wp2_with fail
    try go_ret
    exact ⟨by rw [e]; rfl, ((Below.refl _ w).alloc (Nat.le_refl _) _).trans (Gx.drewN_below _ _ _)⟩
  obtain rfl := empty_of hse
  clear hse hs
  by_cases hnl : nl = 0
  rotate_left
  · have v2 : 0 < nl := by omega
    clear hnl
    have e : ownE 2 n 0 ⟨#[]⟩ nl ne = 10 := by simp [ownE, kindBad, nan0, empty_bad, empty_size, v2]
    go_enter Tryz.func50, Tryz.ntmps50
    go_wp2_with fail
    go_quiet (fail)
    go_wp2_with fail
    try go_ret
    exact ⟨by rw [e]; rfl, ((Below.refl _ w).alloc (Nat.le_refl _) _).trans (Gx.drewN_below _ _ _)⟩
  subst hnl
  clear hl
  by_cases hne : ne = 0
  rotate_left
  · have v3 : 0 < ne := by omega
    clear hne
    have e : ownE 2 n 0 ⟨#[]⟩ 0 ne = 10 := by simp [ownE, kindBad, nan0, empty_bad, empty_size, v3]
    go_enter Tryz.func50, Tryz.ntmps50
    go_wp2_with fail
    go_quiet (fail)
    go_wp2_with fail
    try go_ret
    exact ⟨by rw [e]; rfl, ((Below.refl _ w).alloc (Nat.le_refl _) _).trans (Gx.drewN_below _ _ _)⟩
  subst hne
  clear he
  have hTT : ∀ nq, Tabs ((w.alloc (.cells #[.int .i64 2, .int .i64 n, .int .u64 0, .string ⟨#[]⟩, .slice ad 0 cl, .slice bd 0 ce] 26)).drewN nq) := fun nq => hT.keep (((Below.refl _ w).alloc (Nat.le_refl _) _).trans (Gx.drewN_below _ nq _))
  have HTT := Lib.hid hTT
  clear hTT hT
  go_enter Tryz.func50, Tryz.ntmps50
  go_wp2_with fail
  go_quiet (fail)
  go_wp2_with fail
  refine (bad_any ⟨#[]⟩ _ (HTT.out nq) (by first | omega | decide)).mono ?_
  rintro e w2 ⟨b, rfl, hb, hbw⟩
  have HBW := Lib.hid (Below.trans (((Below.refl w.heap.size w).alloc (Nat.le_refl _) _).trans (Gx.drewN_below _ nq _)) (hbw.mono (by simp)))
  clear hbw
  by_cases hok : okText (ByteArray.mk #[]).data.toList
  · have hlt := hb.2 hok
    have e : ownE 2 n 0 ⟨#[]⟩ 0 0 = 0 := by simp [ownE, kindBad, hok, nan0, empty_bad, empty_size]
    have t1 : decide (0 ≤ b) = false := decide_eq_false (by omega)
    clear hb hok
    go_wp2_with fail
    try go_ret
    exact ⟨by rw [e]; rfl, HBW.out⟩
  · have hlt : 0 ≤ b := Int.not_lt.1 (fun h => hok (hb.1 h))
    have e : ownE 2 n 0 ⟨#[]⟩ 0 0 = 3 := by simp [ownE, kindBad, hok, nan0, empty_bad, empty_size]
    have t1 : decide (0 ≤ b) = true := decide_eq_true hlt
    clear hb hok
    go_wp2_with fail
    try go_ret
    exact ⟨by rw [e]; rfl, HBW.out⟩
set_option maxHeartbeats 8000000 in
theorem own_5 (n f : Int) (s : ByteArray) (ad bd : Option Addr) (nl ne cl ce : Nat) (w : World) (a : Int) (h0 : 0 ≤ a) (h1 : a < 20) (hf0 : 0 ≤ f) (hf1 : f ≤ 18446744073709551615) (hl : nl ≤ 1000000000000000) (he : ne ≤ 1000000000000000) (hs : s.size ≤ 1000000000000000) (hT : Tabs w) :
  Calls Tryz.prog 50 #[.agg #[.int .i64 5, .int .i64 n, .int .u64 f, .string s, .slice ad nl cl, .slice bd ne ce], .int .i64 a] w (OwnPost (ownE 5 n f s nl ne) w) := by
  have t20 : decide (20 ≤ a) = false := decide_eq_false (by omega)
  by_cases hn : n = 0
  rotate_left
  · have u0 : (n != 0) = true := by simpa using hn
    clear hn
    have e : ownE 5 n f s nl ne = 10 := by simp [ownE, kindBad, u0]
    go_enter Tryz.func50, Tryz.ntmps50
    go_wp2_with fail
    go_quiet (fail)
    go_wp2_with fail
    try go_ret
    exact ⟨by rw [e]; rfl, ((Below.refl _ w).alloc (Nat.le_refl _) _).trans (Gx.drewN_below _ _ _)⟩
  subst hn
  by_cases hf : f = 0
  rotate_left
  · have u2 : (f != 0) = true := by simpa using hf
    clear hf
    have e : ownE 5 0 f s nl ne = 10 := by simp [ownE, kindBad, u2]
    go_enter Tryz.func50, Tryz.ntmps50
    go_wp2_with fail
    go_quiet (fail)
    go_wp2_with fail
    try go_ret
    exact ⟨by rw [e]; rfl, ((Below.refl _ w).alloc (Nat.le_refl _) _).trans (Gx.drewN_below _ _ _)⟩
  subst hf
  clear hf0 hf1
  by_cases hse : s.toList.isEmpty = true
  rotate_left
  · have v0 : s.toList.isEmpty = false := by simpa using hse
    have v1 : (!s.toList.isEmpty) = true := by rw [v0]; rfl
    clear hse
    have e : ownE 5 0 0 s nl ne = 10 := by simp [ownE, kindBad, nan0, v0]
    go_enter Tryz.func50, Tryz.ntmps50
    go_wp2_with fail
    go_quiet (fail)
    go_wp2_with fail
    try go_ret
    exact ⟨by rw [e]; rfl, ((Below.refl _ w).alloc (Nat.le_refl _) _).trans (Gx.drewN_below _ _ _)⟩
  obtain rfl := empty_of hse
  clear hse hs
  by_cases hne : ne = 0
  rotate_left
  · have v3 : 0 < ne := by omega
    clear hne
    have e : ownE 5 0 0 ⟨#[]⟩ nl ne = 10 := by simp [ownE, kindBad, nan0, empty_bad, empty_size, v3]
    go_enter Tryz.func50, Tryz.ntmps50
    go_wp2_with fail
    go_quiet (fail)
    go_wp2_with fail
    try go_ret
    exact ⟨by rw [e]; rfl, ((Below.refl _ w).alloc (Nat.le_refl _) _).trans (Gx.drewN_below _ _ _)⟩
  subst hne
  clear he
  by_cases hbig : 200 < nl
  · have v4 : decide ((200 : Int) < (nl : Int)) = true := decide_eq_true (by omega)
    have e : ownE 5 0 0 ⟨#[]⟩ nl 0 = 2 := by simp [ownE, kindBad, nan0, empty_bad, empty_size, hbig]
    go_enter Tryz.func50, Tryz.ntmps50
    go_wp2_with fail
    go_quiet (fail)
    go_wp2_with fail
    try go_ret
    exact ⟨by rw [e]; rfl, ((Below.refl _ w).alloc (Nat.le_refl _) _).trans (Gx.drewN_below _ _ _)⟩
  have v4 : decide ((200 : Int) < (nl : Int)) = false := decide_eq_false (by omega)
  have hTT : ∀ nq, Tabs ((w.alloc (.cells #[.int .i64 5, .int .i64 0, .int .u64 0, .string ⟨#[]⟩, .slice ad nl cl, .slice bd 0 ce] 26)).drewN nq) := fun nq => hT.keep (((Below.refl _ w).alloc (Nat.le_refl _) _).trans (Gx.drewN_below _ nq _))
  have HTT := Lib.hid hTT
  clear hTT hT
  go_enter Tryz.func50, Tryz.ntmps50
  go_wp2_with fail
  go_quiet (fail)
  go_wp2_with fail
  refine (bad_any ⟨#[]⟩ _ (HTT.out nq) (by first | omega | decide)).mono ?_
  rintro e w2 ⟨b, rfl, hb, hbw⟩
  have HBW := Lib.hid (Below.trans (((Below.refl w.heap.size w).alloc (Nat.le_refl _) _).trans (Gx.drewN_below _ nq _)) (hbw.mono (by simp)))
  clear hbw
  by_cases hok : okText (ByteArray.mk #[]).data.toList
  · have hlt := hb.2 hok
    have e : ownE 5 0 0 ⟨#[]⟩ nl 0 = 0 := by simp [ownE, kindBad, hok, nan0, empty_bad, empty_size, hbig]
    have t1 : decide (0 ≤ b) = false := decide_eq_false (by omega)
    clear hb hok
    go_wp2_with fail
    try go_ret
    exact ⟨by rw [e]; rfl, HBW.out⟩
  · have hlt : 0 ≤ b := Int.not_lt.1 (fun h => hok (hb.1 h))
    have e : ownE 5 0 0 ⟨#[]⟩ nl 0 = 3 := by simp [ownE, kindBad, hok, nan0, empty_bad, empty_size, hbig]
    have t1 : decide (0 ≤ b) = true := decide_eq_true hlt
    clear hb hok
    go_wp2_with fail
    try go_ret
    exact ⟨by rw [e]; rfl, HBW.out⟩
set_option maxHeartbeats 8000000 in
theorem own_6 (n f : Int) (s : ByteArray) (ad bd : Option Addr) (nl ne cl ce : Nat) (w : World) (a : Int) (h0 : 0 ≤ a) (h1 : a < 20) (hf0 : 0 ≤ f) (hf1 : f ≤ 18446744073709551615) (hl : nl ≤ 1000000000000000) (he : ne ≤ 1000000000000000) (hs : s.size ≤ 1000000000000000) (hT : Tabs w) :
  Calls Tryz.prog 50 #[.agg #[.int .i64 6, .int .i64 n, .int .u64 f, .string s, .slice ad nl cl, .slice bd ne ce], .int .i64 a] w (OwnPost (ownE 6 n f s nl ne) w) := by
  have t20 : decide (20 ≤ a) = false := decide_eq_false (by omega)
  by_cases hn : n = 0
  rotate_left
  · have u0 : (n != 0) = true := by simpa using hn
    clear hn
    have e : ownE 6 n f s nl ne = 10 := by simp [ownE, kindBad, u0]
    go_enter Tryz.func50, Tryz.ntmps50
    go_wp2_with fail
    go_quiet (fail)
    go_wp2_with fail
    try go_ret
    exact ⟨by rw [e]; rfl, ((Below.refl _ w).alloc (Nat.le_refl _) _).trans (Gx.drewN_below _ _ _)⟩
  subst hn
  by_cases hf : f = 0
  rotate_left
  · have u2 : (f != 0) = true := by simpa using hf
    clear hf
    have e : ownE 6 0 f s nl ne = 10 := by simp [ownE, kindBad, u2]
    go_enter Tryz.func50, Tryz.ntmps50
    go_wp2_with fail
    go_quiet (fail)
    go_wp2_with fail
    try go_ret
    exact ⟨by rw [e]; rfl, ((Below.refl _ w).alloc (Nat.le_refl _) _).trans (Gx.drewN_below _ _ _)⟩
  subst hf
  clear hf0 hf1
  by_cases hse : s.toList.isEmpty = true
  rotate_left
  · have v0 : s.toList.isEmpty = false := by simpa using hse
    have v1 : (!s.toList.isEmpty) = true := by rw [v0]; rfl
    clear hse
    have e : ownE 6 0 0 s nl ne = 10 := by simp [ownE, kindBad, nan0, v0]
    go_enter Tryz.func50, Tryz.ntmps50
    go_wp2_with fail
    go_quiet (fail)
    go_wp2_with fail
    try go_ret
    exact ⟨by rw [e]; rfl, ((Below.refl _ w).alloc (Nat.le_refl _) _).trans (Gx.drewN_below _ _ _)⟩
  obtain rfl := empty_of hse
  clear hse hs
  by_cases hnl : nl = 0
  rotate_left
  · have v2 : 0 < nl := by omega
    clear hnl
    have e : ownE 6 0 0 ⟨#[]⟩ nl ne = 10 := by simp [ownE, kindBad, nan0, empty_bad, empty_size, v2]
    go_enter Tryz.func50, Tryz.ntmps50
    go_wp2_with fail
    go_quiet (fail)
    go_wp2_with fail
    try go_ret
    exact ⟨by rw [e]; rfl, ((Below.refl _ w).alloc (Nat.le_refl _) _).trans (Gx.drewN_below _ _ _)⟩
  subst hnl
  clear hl
  by_cases hbig : 200 < ne
  · have v4 : decide ((200 : Int) < (ne : Int)) = true := decide_eq_true (by omega)
    have e : ownE 6 0 0 ⟨#[]⟩ 0 ne = 2 := by simp [ownE, kindBad, nan0, empty_bad, empty_size, hbig]
    go_enter Tryz.func50, Tryz.ntmps50
    go_wp2_with fail
    go_quiet (fail)
    go_wp2_with fail
    try go_ret
    exact ⟨by rw [e]; rfl, ((Below.refl _ w).alloc (Nat.le_refl _) _).trans (Gx.drewN_below _ _ _)⟩
  have v4 : decide ((200 : Int) < (ne : Int)) = false := decide_eq_false (by omega)
  have hTT : ∀ nq, Tabs ((w.alloc (.cells #[.int .i64 6, .int .i64 0, .int .u64 0, .string ⟨#[]⟩, .slice ad 0 cl, .slice bd ne ce] 26)).drewN nq) := fun nq => hT.keep (((Below.refl _ w).alloc (Nat.le_refl _) _).trans (Gx.drewN_below _ nq _))
  have HTT := Lib.hid hTT
  clear hTT hT
  go_enter Tryz.func50, Tryz.ntmps50
  go_wp2_with fail
  go_quiet (fail)
  go_wp2_with fail
  refine (bad_any ⟨#[]⟩ _ (HTT.out nq) (by first | omega | decide)).mono ?_
  rintro e w2 ⟨b, rfl, hb, hbw⟩
  have HBW := Lib.hid (Below.trans (((Below.refl w.heap.size w).alloc (Nat.le_refl _) _).trans (Gx.drewN_below _ nq _)) (hbw.mono (by simp)))
  clear hbw
  by_cases hok : okText (ByteArray.mk #[]).data.toList
  · have hlt := hb.2 hok
    have e : ownE 6 0 0 ⟨#[]⟩ 0 ne = 0 := by simp [ownE, kindBad, hok, nan0, empty_bad, empty_size, hbig]
    have t1 : decide (0 ≤ b) = false := decide_eq_false (by omega)
    clear hb hok
    go_wp2_with fail
    try go_ret
    exact ⟨by rw [e]; rfl, HBW.out⟩
  · have hlt : 0 ≤ b := Int.not_lt.1 (fun h => hok (hb.1 h))
    have e : ownE 6 0 0 ⟨#[]⟩ 0 ne = 3 := by simp [ownE, kindBad, hok, nan0, empty_bad, empty_size, hbig]
    have t1 : decide (0 ≤ b) = true := decide_eq_true hlt
    clear hb hok
    go_wp2_with fail
    try go_ret
    exact ⟨by rw [e]; rfl, HBW.out⟩
end Go.Proofs.YtldhmfkojaekfaaGreatDoor
