/-
  The contracts of show.leaf and esc.Key. Conditions: the value is good; the library's tables lie in the world.
  The contracts of the printer's two closures. Conditions: what they call prints as it should.
  The contract of the printer's all for value$1. No conditions but what is asked of the function that it calls.
  The contract of the printer's all for value$2. No conditions but what is asked of the function that it calls.
-/
import Derived.Deep.RegionHeld3
import Derived.Laws.EntriesVeiled
import Derived.Test.YtldhmfkojaekfaaGreatDoorShowSameAllPartP
namespace Go.Proofs.YtldhmfkojaekfaaGreatDoor
open Go.RowKit Gx
set_option maxRecDepth 100000

def STabs (w : World) : Prop := QTabs w ∧ FTab w
theorem STabs.keep {w w' : World} (h : STabs w) (hb : Below w.heap.size w w') : STabs w' := ⟨h.1.keep hb, h.2.keep hb⟩
def LeafPost (v : V) (w : World) (e : Ending) (w' : World) : Prop := e = .returned (.string ⟨(leafT v).toArray⟩) ∧ Below w.heap.size w w' ∧ (v.k = 3 → ∃ t, TextIs v.f.toNat t)
set_option maxHeartbeats 400000 in
theorem text_n (n : Int) (h0 : -9223372036854775808 ≤ n) (h1 : n ≤ 9223372036854775807) (w : World) (hT : FTab w) : Calls Tryz.prog 95 #[.int .i64 n] w (StrPostFl (Lib.itoa n) w) := by
  have hf : Calls Tryz.prog 113 #[.int .i64 n, .int .i64 10] w (StrPostFl (Lib.itoa n) w) := by
    refine (Tryz.strconv_FormatInt_10 n h0 h1 w hT).mono ?_
    rintro e w2 ⟨rfl, k, os, rfl⟩
    exact ⟨rfl, below_growFl w k os⟩
  have HF := Lib.hid hf
  clear hf hT
  go_enter Tryz.func95, Tryz.ntmps95
  go_wp2_with fail
  refine HF.out.mono ?_
  rintro e w2 ⟨rfl, hb⟩
  go_wp2
  go_ret
  exact ⟨rfl, hb⟩
theorem bytes_self (s : ByteArray) : s = ⟨s.data.toList.toArray⟩ := by
  apply ByteArray.ext; simp
theorem und_two : ∃ S, Tryz.prog.underlying 132 = some (.array 2 S) ∧ S = 9 := ⟨_, by kernel_rfl, rfl⟩
theorem index_two (x y : Value) (w : World) : (Instr.index 132 (.agg #[x, y]) (.int .i64 0)).run Tryz.prog w = .ok x w ∧ (Instr.index 132 (.agg #[x, y]) (.int .i64 1)).run Tryz.prog w = .ok y w := by
  obtain ⟨S, h, rfl⟩ := und_two
  constructor <;> simp [Instr.index, run_underlying h, asIntOf, go_sem]
set_option maxHeartbeats 4000000 in
theorem leaf_any (d : Nat) (q : Loc) (w : World) (hT : STabs w) (hg : Gd (d + 1) q.v) (hw : q.v.wf) (h5 : q.v.k ≠ 5) (h6 : q.v.k ≠ 6) : Calls Tryz.prog 62 #[q.val] w (LeafPost q.v w) := by
  have hb0 : Below w.heap.size w (w.alloc (.cells #[.int .i64 q.v.k, .int .i64 q.v.n, .int .u64 q.v.f, .string q.v.s, .slice q.ad q.v.l.length q.cap, .slice q.bd q.v.e.length q.dap] 26)) := (Below.refl w.heap.size w).alloc (Nat.le_refl _) _
  have hc := CellsAt.box (q := q) (heap_alloc_new w (.cells #[.int .i64 q.v.k, .int .i64 q.v.n, .int .u64 q.v.f, .string q.v.s, .slice q.ad q.v.l.length q.cap, .slice q.bd q.v.e.length q.dap] 26))
  unfold Loc.val
  have ok := hg.ok
  have k0 := ok.k0
  have k6 := ok.k6
  have hos := (ownV_zero hg.1).2.2.2.2
  have hoz := (ownV_zero hg.1).2.1
  have hw0 := hw.n0
  have hw1 := hw.n1
  have hw2 := hw.f0
  have hw3 := hw.f1
  have HT := Lib.hid (hT.keep hb0)
  clear hw hT hg
  obtain ⟨a0, a1, a2, a3, a4, a5⟩ := hc
  have HB0 := Lib.hid hb0
  clear hb0
  by_cases c0 : q.v.k = 0
  · have HR : Hid (∀ w', Below w.heap.size w w' → LeafPost q.v w (.returned (.string ⟨#[110, 117, 108, 108]⟩)) w') := Lib.hid (fun w' hb => ⟨by unfold leafT; rw [if_pos c0]; rfl, hb, fun h => by omega⟩)
    clear ok hos k0 k6
    rw [c0] at a0 HB0 HT ⊢
    go_enter Tryz.func62, Tryz.ntmps62
    go_wp2_with fail
    try go_ret
    exact HR.out _ HB0.out
  by_cases c1 : q.v.k = 1
  · rcases ok.n1 c1 with n | n
    · have HR : Hid (∀ w', Below w.heap.size w w' → LeafPost q.v w (.returned (.string ⟨#[102, 97, 108, 115, 101]⟩)) w') := Lib.hid (fun w' hb => ⟨by unfold leafT; rw [if_neg c0, if_pos c1, if_neg (by omega)]; rfl, hb, fun h => by omega⟩)
      have hbit : bits BinOp.and IntKind.i64 0 1 = 0 := by decide
      clear ok hos k0 k6
      rw [c1, n] at HB0 HT a0 a1 a2 a3 a4 a5 ⊢
      go_enter Tryz.func62, Tryz.ntmps62
      go_wp2_with fail
      rw [(index_two _ _ _).1]
      simp only [Result.andThen]
      rw [Oper.upon_value]
      go_wp2_with fail
      try go_ret
      exact HR.out _ HB0.out
    · have HR : Hid (∀ w', Below w.heap.size w w' → LeafPost q.v w (.returned (.string ⟨#[116, 114, 117, 101]⟩)) w') := Lib.hid (fun w' hb => ⟨by unfold leafT; rw [if_neg c0, if_pos c1, if_pos n]; rfl, hb, fun h => by omega⟩)
      have hbit : bits BinOp.and IntKind.i64 1 1 = 1 := by decide
      clear ok hos k0 k6
      rw [c1, n] at HB0 HT a0 a1 a2 a3 a4 a5 ⊢
      go_enter Tryz.func62, Tryz.ntmps62
      go_wp2_with fail
      rw [(index_two _ _ _).2]
      simp only [Result.andThen]
      rw [Oper.upon_value]
      go_wp2_with fail
      try go_ret
      exact HR.out _ HB0.out
  by_cases c2 : q.v.k = 2
  · have HR : Hid (∀ w', Below w.heap.size w w' → LeafPost q.v w (.returned (.string ⟨(Lib.itoa q.v.n).toArray⟩)) w') := Lib.hid (fun w' hb => ⟨by unfold leafT; rw [if_neg c0, if_neg c1, if_pos c2], hb, fun h => by omega⟩)
    have HN := Lib.hid (text_n q.v.n hw0 hw1 _ HT.out.2)
    clear ok hos k0 k6
    rw [c2] at HB0 HT HN a0 a1 a2 a3 a4 a5 ⊢
    go_enter Tryz.func62, Tryz.ntmps62
    go_wp2_with fail
    (with_reducible refine HN.out.mono ?_)
    rintro e w2 ⟨rfl, hb⟩
    have HB2 := Lib.hid (HB0.out.trans (hb.mono HB0.out.size))
    clear hb HB0 HT HN a0 a1 a2 a3 a4 a5
    go_wp2_with fail
    try go_ret
    exact HR.out _ HB2.out
  by_cases c3 : q.v.k = 3
  · obtain ⟨b, hb⟩ : ∃ b : Nat, q.v.f = b := ⟨q.v.f.toNat, by omega⟩
    have hbt : q.v.f.toNat = b := by omega
    have HR : Hid (∀ w' (s : ByteArray), TextIs b s.data.toList → Below w.heap.size w w' → LeafPost q.v w (.returned (.string s)) w') := Lib.hid (fun w' s ht hbw => ⟨by
      unfold leafT; rw [if_neg c0, if_neg c1, if_neg c2, if_pos c3, hbt, fTxt_is ht, ← bytes_self], hbw, fun h => ⟨_, by rw [hbt]; exact ht⟩⟩)
    have HN := Lib.hid (text_f b (w.alloc (.cells #[.int .i64 q.v.k, .int .i64 q.v.n, .int .u64 q.v.f, .string q.v.s, .slice q.ad q.v.l.length q.cap, .slice q.bd q.v.e.length q.dap] 26)) (by omega) HT.out.2)
    clear ok hos k0 k6 hbt hw2 hw3
    rw [c3, hb] at HB0 HT HN a0 a1 a2 a3 a4 a5 ⊢
    go_enter Tryz.func62, Tryz.ntmps62
    go_wp2_with fail
    (with_reducible refine HN.out.mono ?_)
    rintro e w2 ⟨s, rfl, ht, -, hb2⟩
    have HB2 := Lib.hid (HB0.out.trans (hb2.mono HB0.out.size))
    have HTI := Lib.hid ht
    clear hb2 HB0 HT HN a0 a1 a2 a3 a4 a5 ht
    go_wp2_with fail
    try go_ret
    exact HR.out _ s HTI.out HB2.out
  · have c4 : q.v.k = 4 := by omega
    obtain ⟨r1, r2⟩ := runesT_ok hos
    have HR : Hid (∀ w', Below w.heap.size w w' → LeafPost q.v w (.returned (.string ⟨(quoteOf (runesT q.v.s.data.toList)).toArray⟩)) w') := Lib.hid (fun w' hb => ⟨by unfold leafT; rw [if_neg c0, if_neg c1, if_neg c2, if_neg c3]; rfl, hb, fun h => by omega⟩)
    have HN := Lib.hid (quote_yes q.v.s (runesT q.v.s.data.toList) _ HT.out.1 (by omega) r1 r2)
    clear ok hos k0 k6 r1 r2
    rw [c4] at HB0 HT HN a0 a1 a2 a3 a4 a5 ⊢
    go_enter Tryz.func62, Tryz.ntmps62
    go_wp2_with fail
    (with_reducible refine HN.out.mono ?_)
    rintro e w2 ⟨rfl, hb⟩
    have HB2 := Lib.hid (HB0.out.trans (hb.mono HB0.out.size))
    clear hb HB0 HT HN a0 a1 a2 a3 a4 a5
    go_wp2_with fail
    try go_ret
    exact HR.out _ HB2.out
/-- esc.Key of a good key -/
theorem key_any (s : ByteArray) (w : World) (hT : STabs w) (hk : KeyOk s) : Calls Tryz.prog 60 #[.string s] w (StrErr (keyT s) 0 w) := by
  unfold keyT
  by_cases hb : bareOf s.data.toList = true
  · rw [if_pos hb]
    refine (key_bare s w (by have := hk.1; omega) hb).mono ?_
    rintro e w' ⟨rfl, h⟩
    exact ⟨by rw [← bytes_self], h⟩
  · rw [if_neg hb]
    obtain ⟨r1, r2⟩ := runesT_ok hk.2
    exact key_quote s _ 0 w (by have := hk.1; omega) hT.1 (by simpa using hb) (fun w0 h0 => quote_yes s _ w0 h0 (by have := hk.1; omega) r1 r2)
end Go.Proofs.YtldhmfkojaekfaaGreatDoor
namespace Go.Proofs.YtldhmfkojaekfaaGreatDoor
open Go.RowKit Gx
set_option maxRecDepth 100000

/-- the boxes that the closures share -/
structure Bx (b n0 deep : Nat) (q : Loc) (W : World) : Prop where
  lt : b < n0
  p : W.heap[n0]? = some (.cells #[.pointer (some ⟨b, 0, none⟩)] 70)
  v : W.heap[n0 + 1]? = some (.cells q.cs.toArray 26)
  d : W.heap[n0 + 2]? = some (.cells #[.int .i64 deep] 3)
theorem Bx.keep {b n0 deep : Nat} {q : Loc} {W W' : World} (h : Bx b n0 deep q W) (k : KeepP b W W') : Bx b n0 deep q W' := by
  have hb := h.lt
  refine ⟨hb, k.oth _ _ h.p (fun e => by have := Option.some.inj e; omega) (fun c fz e => ?_), k.oth _ _ h.v (fun e => by have := Option.some.inj e; omega) (fun c fz e => ?_), k.oth _ _ h.d (fun e => by have := Option.some.inj e; omega) (fun c fz e => ?_)⟩ <;> (injection e with e1 e2; exact absurd e2 (by decide))
theorem Bx.cp {b n0 deep : Nat} {q : Loc} {W : World} (h : Bx b n0 deep q W) : W.cell? ⟨n0, 0, none⟩ = some (.pointer (some ⟨b, 0, none⟩)) := by rw [Lib.cell_of_heap h.p]; rfl
theorem Bx.cd {b n0 deep : Nat} {q : Loc} {W : World} (h : Bx b n0 deep q W) : W.cell? ⟨n0 + 2, 0, none⟩ = some (.int .i64 deep) := by rw [Lib.cell_of_heap h.d]; rfl
theorem Bx.cv {b n0 deep : Nat} {q : Loc} {W : World} (h : Bx b n0 deep q W) : CellsAt W (n0 + 1) 0 q := CellsAt.box h.v
/-- v lies below b still -/
theorem vat_keep {W W' : World} {b : Nat} {q : Loc} (h : VAt W (fun k => k < b) q) (k : KeepP b W W') : VAt W' (fun k => k < b) q :=
  h.through k.size (fun i hi _ => k.below.block i hi) (fun _ h _ => h)
theorem KeepP.drew {b : Nat} {W : World} (h : b ≤ W.heap.size) : KeepP b W W.drew := KeepP.of_below (Gx.drewN_below W 1 _) h
/-- what value is asked for, d levels being left -/
def ValOk (many : Bool) (b d : Nat) (deep : Nat) : Prop := ∀ (q : Loc) (W : World) (l : List UInt8), Prn b many l W → VAt W (fun k => k < b) q → Gd d q.v → l.length + (shwD leafT keyT many d deep q.v).length + 100 * d ≤ 1000000000000 →
  ∀ wt : World, wt.heap.size = b → STabs wt → Below b wt W → Calls Tryz.prog 32 #[.pointer (some ⟨b, 0, none⟩), q.val, .int .i64 deep] W (PrnQ b many (l ++ shwD leafT keyT many d deep q.v) (Tx d q.v) W)
set_option maxHeartbeats 4000000 in
theorem one1_any (many : Bool) (b d deep n0 : Nat) (q : Loc) (HV : ValOk many b d (deep + 1)) (wt : World) (hwt : wt.heap.size = b) (hT : STabs wt) (hd : deep ≤ 20) (hg : Gd (d + 1) q.v) (i : Nat) (x : V) (hx : q.v.l[i]? = some x) (W : World) (l : List UInt8) (hp : Prn b many l W) (hbx : Bx b n0 deep q W) (hq : VAt W (fun k => k < b) q) (hbw : Below b wt W)
    (hl : l.length + (shwD leafT keyT many d (deep + 1) x).length + 100 * d ≤ 1000000000000) :
    Calls Tryz.prog 58 #[.int .i64 i, .pointer (some ⟨n0, 0, none⟩), .pointer (some ⟨n0 + 1, 0, none⟩), .pointer (some ⟨n0 + 2, 0, none⟩)] W (PrnQ b many (l ++ shwD leafT keyT many d (deep + 1) x) (Tx d x) W) := by
  have hil : i < q.v.l.length := (List.getElem?_eq_some_iff.1 hx).1
  obtain ⟨blk, off, had, hB, hlt, hel⟩ := hq.l.elem (by omega)
  obtain ⟨xq, hxv, hxa, hxc⟩ := hel i x hx
  subst hxv
  have hk0 : KeepP b W W.drew := KeepP.drew (Nat.le_of_lt hp.lt)
  have hw : IntKind.i64.wrap ((deep : Int) + 1) = ((deep + 1 : Nat) : Int) := by rw [IntKind.wrap_i64]; omega
  have hc : Calls Tryz.prog 32 #[.pointer (some ⟨b, 0, none⟩), xq.val, .int .i64 (IntKind.i64.wrap ((deep : Int) + 1))] W.drew (PrnQ b many (l ++ shwD leafT keyT many d (deep + 1) xq.v) (Tx d xq.v) W.drew) := by
    rw [hw]
    exact HV xq W.drew l (hp.keep (Gx.drewN_below W 1 _)) (vat_keep hxa hk0) (hg.l _ (List.mem_of_getElem? hx)) hl wt hwt hT (hbw.trans hk0.below)
  unfold Loc.val at hc
  have HC := Lib.hid hc
  have HK0 := Lib.hid hk0
  obtain ⟨e0, e1, e2, e3, e4, e5⟩ := hxc
  obtain ⟨v0, v1, v2, v3, v4, v5⟩ := hbx.cv
  have cp := hbx.cp
  have cd := hbx.cd
  rw [had] at v4
  have hi0 : (0 : Int) ≤ (i : Int) := by omega
  have hi1 : (i : Int) < (q.v.l.length : Int) := by omega
  have hi2 : (i : Int).toNat = i := by omega
  clear hc hk0 hw HV hwt hT hg hx hp hbx hq hbw hl hel hxa hlt hB had v0 v1 v2 v3 v5 hd
  go_enter Tryz.func58, Tryz.ntmps58
  go_wp2_with fail
  go_region_law (first | (go_simp; (with_reducible refine HC.out.mono ?_); rintro e w2 ⟨⟨⟨v, rfl⟩, h2, hk2⟩, ht⟩; have HR : Hid (PrnQ b many (l ++ shwD leafT keyT many d (deep + 1) xq.v) (Tx d xq.v) W (.returned (.tuple #[])) w2) := Lib.hid ⟨⟨⟨_, rfl⟩, h2, HK0.out.trans hk2⟩, ht⟩; clear h2 hk2 ht))
  all_goals
    go_wp2_with fail
    try go_end0
    exact HR.out
theorem cat_size (l m : List UInt8) : ((⟨l.toArray⟩ : ByteArray) ++ ⟨m.toArray⟩).size = l.length + m.length := by
  rw [ByteArray.size_append]; rfl
theorem cat_list (l m : List UInt8) : ((⟨l.toArray⟩ : ByteArray) ++ ⟨m.toArray⟩).data.toList = l ++ m := by
  rw [ByteArray.data_append]; simp
set_option maxHeartbeats 4000000 in
theorem one2_any (many : Bool) (b d deep n0 : Nat) (q : Loc) (HV : ValOk many b d (deep + 1)) (wt : World) (hwt : wt.heap.size = b) (hT : STabs wt) (hd : deep ≤ 20) (hg : Gd (d + 1) q.v) (i : Nat) (x : ByteArray × V) (hx : q.v.e[i]? = some x) (W : World) (l : List UInt8) (hp : Prn b many l W) (hbx : Bx b n0 deep q W) (hq : VAt W (fun k => k < b) q) (hbw : Below b wt W)
    (hl : l.length + (keyT x.1 ++ ([58, 32] ++ shwD leafT keyT many d (deep + 1) x.2)).length + 100 * d ≤ 1000000000000) :
    Calls Tryz.prog 59 #[.int .i64 i, .pointer (some ⟨n0 + 1, 0, none⟩), .pointer (some ⟨n0, 0, none⟩), .pointer (some ⟨n0 + 2, 0, none⟩)] W (PrnQ b many (l ++ (keyT x.1 ++ ([58, 32] ++ shwD leafT keyT many d (deep + 1) x.2))) (Tx d x.2) W) := by
  have hil : i < q.v.e.length := (List.getElem?_eq_some_iff.1 hx).1
  have hq0 := hq
  obtain ⟨blk, off, had, hB, hlt, hel⟩ := hq0.e.entry (by omega)
  obtain ⟨-, hkc, xq, hxv, hxa, hxc⟩ := hel i x hx
  obtain ⟨key, xv⟩ := x
  simp only at hxv hkc hl ⊢
  subst hxv
  have hko : KeyOk key := keyE_short _ _ hg.2.1 _ (List.mem_of_getElem? hx)
  obtain ⟨v0, v1, v2, v3, v4, v5⟩ := hbx.cv
  rw [had] at v5
  have hi0 : (0 : Int) ≤ (i : Int) := by omega
  have hi1 : (i : Int) < (q.v.e.length : Int) := by omega
  have hi2 : (i : Int).toNat = i := by omega
  have hsz := hbw.size
  rw [hwt] at hsz
  have hTW : ∀ W2 : World, Below b wt W2 → STabs W2 := fun W2 hb => hT.keep (by rw [hwt]; exact hb)
  obtain ⟨KT, hKT⟩ : ∃ KT, KT = keyT key := ⟨_, rfl⟩
  have HK := Lib.hid (key_any key W (hTW W hbw) hko)
  rw [← hKT] at HK hl ⊢
  have HBX := Lib.hid hbx
  have HXA := Lib.hid hxa
  have HP := Lib.hid hp
  have HVV := Lib.hid HV
  have HTW := Lib.hid hTW
  have HBW := Lib.hid hbw
  have HGD := Lib.hid (hg.e _ (List.mem_of_getElem? hx))
  have hle : l.length + KT.length + 2 + (shwD leafT keyT many d (deep + 1) xq.v).length + 100 * d ≤ 1000000000000 := by
    simp only [List.length_append, List.length_cons, List.length_nil] at hl; omega
  have HL := Lib.hid hle
  have hcat : ¬ 9223372036854775807 < KT.length + 2 := by omega
  have HXC := Lib.hid hxc
  have HV5 := Lib.hid v5
  have hbs : blk < b := hB
  clear hbx hxa hp HV hTW hbw hg hl hle hx hxc hq hq0 hel hko hKT v0 v1 v2 v3 v4 hlt hB had
  go_enter Tryz.func59, Tryz.ntmps59
  go_wp2_with fail
  unfold StrErr at HK
  (with_reducible refine HK.out.mono ?_)
  rintro e w2 ⟨rfl, hb2⟩
  have hk2 : KeepP b W w2 := KeepP.of_below hb2 hsz
  have HK2 := Lib.hid hk2
  have HP2 := Lib.hid (HP.out.keep hb2)
  have HBX2 := Lib.hid (HBX.out.keep hk2)
  have cp := HBX2.out.cp
  have HWS := Lib.hid (writeStrP b many l ((⟨KT.toArray⟩ : ByteArray) ++ ⟨#[58, 32]⟩) w2 HP2.out (by have := cat_size KT [58, 32]; have := HL.out; simp only [List.length_cons, List.length_nil] at *; omega))
  clear hb2 hk2 HK hkc v5
  go_wp2_with fail
  (with_reducible refine HWS.out.mono ?_)
  rintro e w3 ⟨rfl, h3, hb3, ho3, hz3⟩
  have hk3 : KeepP b W w3 := HK2.out.trans ⟨hb3, ho3, hz3⟩
  have h3' : Prn b many (l ++ (KT ++ [58, 32])) w3 := by
    have := cat_list KT [58, 32]
    rw [show ((⟨KT.toArray⟩ : ByteArray) ++ ⟨#[58, 32]⟩).data.toList = KT ++ [58, 32] from this] at h3
    exact h3
  have hk0 : KeepP b w3 w3.drew := KeepP.drew (Nat.le_of_lt h3.lt)
  have hk4 := hk3.trans hk0
  have hw : IntKind.i64.wrap ((deep : Int) + 1) = ((deep + 1 : Nat) : Int) := by rw [IntKind.wrap_i64]; omega
  have hc : Calls Tryz.prog 32 #[.pointer (some ⟨b, 0, none⟩), xq.val, .int .i64 (IntKind.i64.wrap ((deep : Int) + 1))] w3.drew (PrnQ b many ((l ++ (KT ++ [58, 32])) ++ shwD leafT keyT many d (deep + 1) xq.v) (Tx d xq.v) w3.drew) := by
    rw [hw]
    exact HVV.out xq w3.drew _ (h3'.keep (Gx.drewN_below w3 1 _)) (vat_keep HXA.out hk4) HGD.out (by have := HL.out; simp only [List.length_append, List.length_cons, List.length_nil]; omega) wt hwt (HTW.out wt (Below.refl _ _)) (HBW.out.trans hk4.below)
  unfold Loc.val at hc
  have HC := Lib.hid hc
  have HK4 := Lib.hid hk4
  have hcell : ∀ o, w3.cell? ⟨blk, o, none⟩ = W.cell? ⟨blk, o, none⟩ := fun o => World.cell?_of_block (hk3.below.block blk hbs)
  obtain ⟨e0, e1, e2, e3, e4, e5⟩ := HXC.out
  rw [← hcell] at e0 e1 e2 e3 e4 e5
  have hbx3 := HBX.out.keep hk3
  have v5 := hbx3.cv.c5
  have cp := hbx3.cp
  have cd := hbx3.cd
  have had : q.bd = some ⟨blk, off, none⟩ := by
    have h1 := HBX.out.cv.c5
    rw [HV5.out] at h1
    injection h1 with h1
    injection h1 with h1
    exact h1.symm
  rw [had] at v5
  clear h3 hb3 ho3 hz3 hk3 h3' hk0 hk4 hw hc hcell hbx3 had HWS HK2 HP2 HBX2 HBX HXA HP HVV HTW HBW HGD HXC HV5 hcat hd
  go_wp2_with fail
  go_region_law (first | (go_simp; (with_reducible refine HC.out.mono ?_); rintro e w5 ⟨⟨⟨v, rfl⟩, h5, hk5⟩, ht⟩; have HR : Hid (PrnQ b many (l ++ (KT ++ ([58, 32] ++ shwD leafT keyT many d (deep + 1) xq.v))) (Tx d xq.v) W (.returned (.tuple #[])) w5) := Lib.hid ⟨⟨⟨_, rfl⟩, by simpa using h5, HK4.out.trans hk5⟩, ht⟩; clear h5 hk5 ht))
  all_goals
    go_wp2_with fail
    try go_end0
    exact HR.out
end Go.Proofs.YtldhmfkojaekfaaGreatDoor
namespace Go.Proofs.YtldhmfkojaekfaaGreatDoor
open Go.RowKit Gx
set_option maxRecDepth 100000

set_option maxHeartbeats 8000000 in
theorem all1_any (b : Nat) (many : Bool) (l : List UInt8) (deep : Nat) (xs : List (List UInt8)) (c1 c2 c3 : Value) (Q : Nat → Prop) (w : World) (h : Prn b many l w) (hdp : deep ≤ 20) (hn : xs.length ≤ 1000) (M : Nat) (hM : M ≤ 1000000000000) (hop : l.length + 1 + (partsT many deep xs).length + 100 ≤ M)
    (hone : ∀ (i : Nat) (x : List UInt8), xs[i]? = some x → ∀ (W : World) (l' : List UInt8), Prn b many l' W → KeepP b w W → l'.length + x.length + 100 ≤ M → Calls Tryz.prog 58 #[.int .i64 i, c1, c2, c3] W (PrnQ b many (l' ++ x) (Q i) W)) :
    Calls Tryz.prog 57 #[.pointer (some ⟨b, 0, none⟩), .string ⟨#[91, 93]⟩, .int .i64 xs.length, .int .i64 deep, .func (.func 58) #[] #[c1, c2, c3]] w
      (PrnQ b many (l ++ 91 :: (partsT many deep xs ++ (tailT many deep xs.length ++ [93]))) (∀ i, i < xs.length → Q i) w) := by
  have HP := Lib.hid h
  have HONE := Lib.hid hone
  have HOP := Lib.hid hop
  obtain ⟨n, hnn⟩ : ∃ n, xs.length = n := ⟨_, rfl⟩
  rw [hnn] at hn ⊢
  have HN := Lib.hid hnn
  clear h hone hop hnn
  go_enter Tryz.func57, Tryz.ntmps57
  have HWB : Hid (Calls Tryz.prog 33 #[.pointer (some ⟨b, 0, none⟩), .int .u8 (((⟨#[91, 93]⟩ : ByteArray)[0]'(by decide)).toNat : Nat)] w.drew (PrnPost .nilIface b many (l ++ [91]) w.drew)) := Lib.hid (writeByteP b many l 91 w.drew (HP.out.keep (Gx.drewN_below w 1 _)) (by have := HOP.out; omega))
  go_wp2_with fail
  go_region_law (first | (go_simp; (with_reducible refine HWB.out.mono ?_); rintro e w2 ⟨rfl, h2, hb2, ho2, hz2⟩; have H2 := Lib.hid h2; have HK2 := Lib.hid (KeepP.mk hb2 ho2 hz2); clear h2 hb2 ho2 hz2))
  have HK : Hid (KeepP b w w2) := Lib.hid ((KeepP.of_below (Gx.drewN_below w 1 _) (Nat.le_of_lt HP.out.lt)).trans HK2.out)
  have H2' : Hid (Prn b many (l ++ 91 :: partsT many deep (xs.take 0)) w2) := Lib.hid (by have := H2.out; simpa [partsT, elemsT] using this)
  clear HWB H2 HK2
  go_wp2_with fail
  go_loopw [18] (fun i wr => ∃ j : Nat, j ≤ n ∧ i = .int .i64 j ∧ Hid (Prn b many (l ++ 91 :: partsT many deep (xs.take j)) wr) ∧ Hid (KeepP b w wr) ∧ Hid (∀ i, i < j → Q i)) (fun i _ => n - (intOf i).toNat)
  case atStart => exact ⟨0, Nat.zero_le _, rfl, H2', HK, Lib.hid (fun i hi => absurd hi (Nat.not_lt_zero i))⟩
  case round =>
    obtain ⟨j, hj, rfl, hP, hK, hQ⟩ := hrel
    by_cases hlt : j < n
    · obtain ⟨x, hx⟩ : ∃ x, xs[j]? = some x := ⟨_, List.getElem?_eq_getElem (by have := HN.out; omega)⟩
      have hlen : (l ++ 91 :: partsT many deep (xs.take (j + 1))).length + 100 ≤ M := by
        have h1 := HOP.out
        have h2 := partsT_le (many := many) (deep := deep) (xs := xs) (j + 1)
        simp only [List.length_append, List.length_cons]
        omega
      have hnx := partsT_take (many := many) (deep := deep) hx
      have e1 : l ++ 91 :: partsT many deep (xs.take (j + 1)) = ((l ++ 91 :: partsT many deep (xs.take j)) ++ preT many deep j) ++ x ++ postT many := by rw [hnx]; simp
      rw [e1] at hlen
      have HX := Lib.hid hx
      have HE := Lib.hid e1
      obtain ⟨l', hl'⟩ : ∃ l', l' = l ++ 91 :: partsT many deep (xs.take j) := ⟨_, rfl⟩
      rw [← hl'] at hlen
      have HL' := Lib.hid hl'
      have HLEN := Lib.hid hlen
      rw [← hl'] at hP
      clear hx hnx e1 hlen hl' H2'
      -- the world behind what stands ahead of the part
      have hm := hP.out.many_
      cases many with
      | true =>
        have hlb : ((l' ++ preT true deep j) ++ x ++ postT true).length = l'.length + (preT true deep j).length + x.length + 1 := by simp [postT]; omega
        have HLB := Lib.hid hlb
        have HRP := Lib.hid (rep2_any (deep + 1) (by omega) (IntKind.i64.wrap ((deep : Int) + 1)) (by rw [IntKind.wrap_i64]; omega))
        clear hlb
        have hcat : ¬ 9223372036854775807 < 1 + (indentT (deep + 1)).length := by simp [indentT]; omega
        have HPW : Hid (Prn b true l' wr.drew) := Lib.hid (hP.out.keep (Gx.drewN_below wr 1 _))
        have HKW : Hid (KeepP b w wr.drew) := Lib.hid (hK.out.trans (KeepP.of_below (Gx.drewN_below wr 1 _) (Nat.le_of_lt hP.out.lt)))
        have HLS : Hid (l'.length + ((⟨#[10]⟩ : ByteArray) ++ ⟨(indentT (deep + 1)).toArray⟩).size ≤ 140737488355328) := Lib.hid (by
          have := HLEN.out; rw [HLB.out] at this; rw [nl_size]; simp [indentT]; omega)
        have HLX : Hid ((l' ++ preT true deep j).length + x.length + 100 ≤ M) := Lib.hid (by
          have := HLEN.out; rw [HLB.out] at this; rw [List.length_append]; omega)
        have HLY : Hid (((l' ++ preT true deep j) ++ x).length + 1 ≤ 140737488355328) := Lib.hid (by
          have := HLEN.out; rw [HLB.out] at this; rw [List.length_append, List.length_append]; omega)
        clear hP hK HLB
        go_wp2_with fail
        clear hm
        go_region_law (first | (go_simp; (with_reducible refine (HRP.out _).mono ?_); rintro e w3 ⟨rfl, hb3⟩; have HB3 := Lib.hid hb3; clear hb3) | (go_simp; (with_reducible refine (writeStrP b true l' _ w3 (HPW.out.keep HB3.out) HLS.out).mono ?_); rintro e w4 ⟨rfl, h4, hb4, ho4, hz4⟩; have H4 := Lib.hid h4; have HK4 := Lib.hid (KeepP.mk hb4 ho4 hz4); clear h4 hb4 ho4 hz4))
        have H5 : Hid (Prn b true (l' ++ preT true deep j) w4) := Lib.hid (by have := H4.out; rw [nl_list] at this; exact this)
        have HK5 : Hid (KeepP b w w4) := Lib.hid ((HKW.out.trans (KeepP.of_below HB3.out (Nat.le_of_lt HPW.out.lt))).trans HK4.out)
        clear H4 HK4 HB3 HKW HPW HLS HRP hcat
        go_wp2_with fail
        refine (HONE.out j x HX.out w4 _ H5.out HK5.out HLX.out).mono ?_
        rintro e w6 ⟨⟨⟨v6, rfl⟩, h6, hk6⟩, hq6⟩
        have HQ6 : Hid (∀ i, i < j + 1 → Q i) := Lib.hid (fun i hi => by rcases Nat.lt_succ_iff_lt_or_eq.1 hi with h | h; exact hQ.out i h; rw [h]; exact hq6)
        have hm6 := h6.many_
        have HWB : Hid (Calls Tryz.prog 33 #[.pointer (some ⟨b, 0, none⟩), .int .u8 44] w6 (PrnPost .nilIface b true (((l' ++ preT true deep j) ++ x) ++ [44]) w6)) := Lib.hid (writeByteP b true _ 44 w6 h6 HLY.out)
        have HK6 := Lib.hid (HK5.out.trans hk6)
        clear h6 hk6 H5 HK5 HLX HLY
        go_wp2_with fail
        (with_reducible refine HWB.out.mono ?_)
        rintro e w7 ⟨rfl, h7, hb7, ho7, hz7⟩
        have H7 : Hid (Prn b true (l ++ 91 :: partsT true deep (xs.take (j + 1))) w7) := Lib.hid (by rw [HE.out, ← HL'.out]; exact h7)
        have HK7 := Lib.hid (HK6.out.trans (KeepP.mk hb7 ho7 hz7))
        clear h7 hb7 ho7 hz7 HWB HK6 HE HL' HLEN
        go_wp2_with fail
        go_roundw
        case rel => exact ⟨j + 1, by omega, by go_num, H7, HK7, HQ6⟩
        case measure => simp [intOf]; omega
      | false =>
        have hlb : ((l' ++ preT false deep j) ++ x ++ postT false).length = l'.length + (preT false deep j).length + x.length := by simp [postT]; omega
        have HLB := Lib.hid hlb
        clear hlb
        have HLX : Hid ((l' ++ preT false deep j).length + x.length + 100 ≤ M) := Lib.hid (by
          have := HLEN.out; rw [HLB.out] at this; rw [List.length_append]; omega)
        have HEND : Hid (∀ l2 : List UInt8, l2 = (l' ++ preT false deep j) ++ x → l2 = l ++ 91 :: partsT false deep (xs.take (j + 1))) := Lib.hid (fun l2 h2 => by rw [HE.out, ← HL'.out, h2]; simp [postT])
        by_cases hj0 : 0 < j
        · have hji : (0 : Int) < (j : Int) := by omega
          have HPR : Hid (preT false deep j = [44, 32]) := Lib.hid (by simp only [preT, Bool.false_eq_true, if_false]; rw [if_neg (by omega)])
          have HWS := Lib.hid (writeStrP b false l' ⟨#[44, 32]⟩ wr hP.out (by have := HLEN.out; rw [HLB.out, HPR.out] at this; show l'.length + 2 ≤ _; simp only [List.length_cons, List.length_nil] at this; omega))
          clear HLB
          go_wp2_with fail
          (with_reducible refine HWS.out.mono ?_)
          rintro e w4 ⟨rfl, h4, hb4, ho4, hz4⟩
          have H5 : Hid (Prn b false (l' ++ preT false deep j) w4) := Lib.hid (by rw [HPR.out]; exact h4)
          have HK5 := Lib.hid (hK.out.trans (KeepP.mk hb4 ho4 hz4))
          clear h4 hb4 ho4 hz4 HWS HPR hm hji hP hK
          go_wp2_with fail
          refine (HONE.out j x HX.out w4 _ H5.out HK5.out HLX.out).mono ?_
          rintro e w6 ⟨⟨⟨v6, rfl⟩, h6, hk6⟩, hq6⟩
          have HQ6 : Hid (∀ i, i < j + 1 → Q i) := Lib.hid (fun i hi => by rcases Nat.lt_succ_iff_lt_or_eq.1 hi with h | h; exact hQ.out i h; rw [h]; exact hq6)
          have hm6 := h6.many_
          have H7 : Hid (Prn b false (l ++ 91 :: partsT false deep (xs.take (j + 1))) w6) := Lib.hid (by rw [← HEND.out _ rfl]; exact h6)
          have HK7 := Lib.hid (HK5.out.trans hk6)
          clear h6 hk6 H5 HK5 HLX HEND HE HL' HLEN
          go_wp2_with fail
          go_roundw
          case rel => exact ⟨j + 1, by omega, by go_num, H7, HK7, HQ6⟩
          case measure => simp [intOf]; omega
        · obtain rfl : j = 0 := by omega
          have H5 : Hid (Prn b false (l' ++ preT false deep 0) wr) := Lib.hid (by simp only [preT, Bool.false_eq_true, if_false, if_true, List.append_nil]; exact hP.out)
          clear HLB
          go_wp2_with fail
          refine (HONE.out 0 x HX.out wr _ H5.out hK.out HLX.out).mono ?_
          rintro e w6 ⟨⟨⟨v6, rfl⟩, h6, hk6⟩, hq6⟩
          have HQ6 : Hid (∀ i, i < 0 + 1 → Q i) := Lib.hid (fun i hi => by rcases Nat.lt_succ_iff_lt_or_eq.1 hi with h | h; exact hQ.out i h; rw [h]; exact hq6)
          have hm6 := h6.many_
          have H7 : Hid (Prn b false (l ++ 91 :: partsT false deep (xs.take (0 + 1))) w6) := Lib.hid (by rw [← HEND.out _ rfl]; exact h6)
          have HK7 := Lib.hid (hK.out.trans hk6)
          clear h6 hk6 H5 hP hK HLX HEND HE HL' HLEN hm
          go_wp2_with fail
          go_roundw
          case rel => exact ⟨0 + 1, by omega, by go_num, H7, HK7, HQ6⟩
          case measure => simp [intOf]; omega
    · obtain rfl : j = n := by omega
      have hT : xs.take j = xs := by rw [← HN.out, List.take_length]
      rw [hT] at hP
      have hm := hP.out.many_
      have HW' := hP
      clear hT H2'
      cases many with
      | true =>
        by_cases hj0 : 0 < j
        · have hji : (0 : Int) < (j : Int) := by omega
          have HTL : Hid (tailT true deep j = 10 :: indentT deep) := Lib.hid (by simp [tailT, hj0])
          have HWC : Hid (∀ W : World, Prn b true (l ++ 91 :: (partsT true deep xs ++ tailT true deep j)) W → Calls Tryz.prog 33 #[.pointer (some ⟨b, 0, none⟩), .int .u8 (((⟨#[91, 93]⟩ : ByteArray)[1]'(by decide)).toNat : Nat)] W (PrnPost .nilIface b true ((l ++ 91 :: (partsT true deep xs ++ tailT true deep j)) ++ [93]) W)) := Lib.hid (fun W hW => writeByteP b true _ 93 W hW (by
            have h1 := HOP.out; have h2 := tailT_le true deep j
            simp only [List.length_append, List.length_cons]; omega))
          have hcat : ¬ 9223372036854775807 < 1 + (indentT deep).length := by simp [indentT]; omega
          have HRP := Lib.hid (rep2_any deep (by omega) (deep : Int) rfl)
          have HPW : Hid (Prn b true (l ++ 91 :: partsT true deep xs) wr.drew) := Lib.hid (hP.out.keep (Gx.drewN_below wr 1 _))
          have HKW : Hid (KeepP b w wr.drew) := Lib.hid (hK.out.trans (KeepP.of_below (Gx.drewN_below wr 1 _) (Nat.le_of_lt hP.out.lt)))
          have HLS : Hid ((l ++ 91 :: partsT true deep xs).length + ((⟨#[10]⟩ : ByteArray) ++ ⟨(indentT deep).toArray⟩).size ≤ 140737488355328) := Lib.hid (by
            have h1 := HOP.out; rw [nl_size]; simp only [List.length_append, List.length_cons, indentT, List.length_replicate]; omega)
          clear hP hK HW'
          go_wp2_with fail
          clear hm
          go_region_law (first | (go_simp; (with_reducible refine (HRP.out _).mono ?_); rintro e w3 ⟨rfl, hb3⟩; have HB3 := Lib.hid hb3; clear hb3) | (go_simp; (with_reducible refine (writeStrP b true _ _ w3 (HPW.out.keep HB3.out) HLS.out).mono ?_); rintro e w4 ⟨rfl, h4, hb4, ho4, hz4⟩; have H4 := Lib.hid h4; have HK4 := Lib.hid (KeepP.mk hb4 ho4 hz4); clear h4 hb4 ho4 hz4))
          have HQ : Hid (Prn b true (l ++ 91 :: (partsT true deep xs ++ tailT true deep j)) w4.drew) := Lib.hid (by
            have := H4.out; rw [nl_list] at this; rw [HTL.out]; exact (by simpa using this : Prn b true _ w4).keep (Gx.drewN_below w4 1 _))
          have HKQ : Hid (KeepP b w w4.drew) := Lib.hid (((HKW.out.trans (KeepP.of_below HB3.out (Nat.le_of_lt HPW.out.lt))).trans HK4.out).trans (KeepP.of_below (Gx.drewN_below w4 1 _) (Nat.le_of_lt H4.out.lt)))
          clear H4 HK4 HB3 HKW HPW HLS HRP hcat
          go_wp2_with fail
          go_region_law (first | (go_simp; (with_reducible refine (HWC.out _ HQ.out).mono ?_); rintro e w9 ⟨rfl, h9, hb9, ho9, hz9⟩; have H9 := Lib.hid h9; have HK9 := Lib.hid (KeepP.mk hb9 ho9 hz9); clear h9 hb9 ho9 hz9))
          go_wp2_with fail
          try go_end0
          exact ⟨⟨⟨_, rfl⟩, by have := H9.out; simpa using this, HKQ.out.trans HK9.out⟩, hQ.out⟩
        · obtain rfl : j = 0 := by omega
          have HWC : Hid (∀ W : World, Prn b true (l ++ 91 :: (partsT true deep xs ++ tailT true deep 0)) W → Calls Tryz.prog 33 #[.pointer (some ⟨b, 0, none⟩), .int .u8 (((⟨#[91, 93]⟩ : ByteArray)[1]'(by decide)).toNat : Nat)] W (PrnPost .nilIface b true ((l ++ 91 :: (partsT true deep xs ++ tailT true deep 0)) ++ [93]) W)) := Lib.hid (fun W hW => writeByteP b true _ 93 W hW (by
            have h1 := HOP.out; have h2 := tailT_le true deep 0
            simp only [List.length_append, List.length_cons]; omega))
          have HQ : Hid (Prn b true (l ++ 91 :: (partsT true deep xs ++ tailT true deep 0)) wr.drew) := Lib.hid (by
            have : Prn b true _ wr.drew := hP.out.keep (Gx.drewN_below wr 1 _); simpa [tailT] using this)
          have HKQ : Hid (KeepP b w wr.drew) := Lib.hid (hK.out.trans (KeepP.of_below (Gx.drewN_below wr 1 _) (Nat.le_of_lt hP.out.lt)))
          clear hP hK HW'
          go_wp2_with fail
          go_region_law (first | (go_simp; (with_reducible refine (HWC.out _ HQ.out).mono ?_); rintro e w9 ⟨rfl, h9, hb9, ho9, hz9⟩; have H9 := Lib.hid h9; have HK9 := Lib.hid (KeepP.mk hb9 ho9 hz9); clear h9 hb9 ho9 hz9))
          go_wp2_with fail
          try go_end0
          exact ⟨⟨⟨_, rfl⟩, by have := H9.out; simpa using this, HKQ.out.trans HK9.out⟩, hQ.out⟩
      | false =>
        have HWC : Hid (∀ W : World, Prn b false (l ++ 91 :: (partsT false deep xs ++ tailT false deep j)) W → Calls Tryz.prog 33 #[.pointer (some ⟨b, 0, none⟩), .int .u8 (((⟨#[91, 93]⟩ : ByteArray)[1]'(by decide)).toNat : Nat)] W (PrnPost .nilIface b false ((l ++ 91 :: (partsT false deep xs ++ tailT false deep j)) ++ [93]) W)) := Lib.hid (fun W hW => writeByteP b false _ 93 W hW (by
          have h1 := HOP.out; have h2 := tailT_le false deep j
          simp only [List.length_append, List.length_cons]; omega))
        have HQ : Hid (Prn b false (l ++ 91 :: (partsT false deep xs ++ tailT false deep j)) wr.drew) := Lib.hid (by
          have : Prn b false _ wr.drew := hP.out.keep (Gx.drewN_below wr 1 _); simpa [tailT] using this)
        have HKQ : Hid (KeepP b w wr.drew) := Lib.hid (hK.out.trans (KeepP.of_below (Gx.drewN_below wr 1 _) (Nat.le_of_lt hP.out.lt)))
        clear hP hK HW'
        go_wp2_with fail
        go_region_law (first | (go_simp; (with_reducible refine (HWC.out _ HQ.out).mono ?_); rintro e w9 ⟨rfl, h9, hb9, ho9, hz9⟩; have H9 := Lib.hid h9; have HK9 := Lib.hid (KeepP.mk hb9 ho9 hz9); clear h9 hb9 ho9 hz9))
        go_wp2_with fail
        try go_end0
        exact ⟨⟨⟨_, rfl⟩, by have := H9.out; simpa using this, HKQ.out.trans HK9.out⟩, hQ.out⟩
end Go.Proofs.YtldhmfkojaekfaaGreatDoor
namespace Go.Proofs.YtldhmfkojaekfaaGreatDoor
open Go.RowKit Gx
set_option maxRecDepth 100000

set_option maxHeartbeats 8000000 in
theorem all2_any (b : Nat) (many : Bool) (l : List UInt8) (deep : Nat) (xs : List (List UInt8)) (c1 c2 c3 : Value) (Q : Nat → Prop) (w : World) (h : Prn b many l w) (hdp : deep ≤ 20) (hn : xs.length ≤ 1000) (M : Nat) (hM : M ≤ 1000000000000) (hop : l.length + 1 + (partsT many deep xs).length + 100 ≤ M)
    (hone : ∀ (i : Nat) (x : List UInt8), xs[i]? = some x → ∀ (W : World) (l' : List UInt8), Prn b many l' W → KeepP b w W → l'.length + x.length + 100 ≤ M → Calls Tryz.prog 59 #[.int .i64 i, c1, c2, c3] W (PrnQ b many (l' ++ x) (Q i) W)) :
    Calls Tryz.prog 57 #[.pointer (some ⟨b, 0, none⟩), .string ⟨#[123, 125]⟩, .int .i64 xs.length, .int .i64 deep, .func (.func 59) #[] #[c1, c2, c3]] w
      (PrnQ b many (l ++ 123 :: (partsT many deep xs ++ (tailT many deep xs.length ++ [125]))) (∀ i, i < xs.length → Q i) w) := by
  have HP := Lib.hid h
  have HONE := Lib.hid hone
  have HOP := Lib.hid hop
  obtain ⟨n, hnn⟩ : ∃ n, xs.length = n := ⟨_, rfl⟩
  rw [hnn] at hn ⊢
  have HN := Lib.hid hnn
  clear h hone hop hnn
  go_enter Tryz.func57, Tryz.ntmps57
  have HWB : Hid (Calls Tryz.prog 33 #[.pointer (some ⟨b, 0, none⟩), .int .u8 (((⟨#[123, 125]⟩ : ByteArray)[0]'(by decide)).toNat : Nat)] w.drew (PrnPost .nilIface b many (l ++ [123]) w.drew)) := Lib.hid (writeByteP b many l 123 w.drew (HP.out.keep (Gx.drewN_below w 1 _)) (by have := HOP.out; omega))
  go_wp2_with fail
  go_region_law (first | (go_simp; (with_reducible refine HWB.out.mono ?_); rintro e w2 ⟨rfl, h2, hb2, ho2, hz2⟩; have H2 := Lib.hid h2; have HK2 := Lib.hid (KeepP.mk hb2 ho2 hz2); clear h2 hb2 ho2 hz2))
  have HK : Hid (KeepP b w w2) := Lib.hid ((KeepP.of_below (Gx.drewN_below w 1 _) (Nat.le_of_lt HP.out.lt)).trans HK2.out)
  have H2' : Hid (Prn b many (l ++ 123 :: partsT many deep (xs.take 0)) w2) := Lib.hid (by have := H2.out; simpa [partsT, elemsT] using this)
  clear HWB H2 HK2
  go_wp2_with fail
  go_loopw [18] (fun i wr => ∃ j : Nat, j ≤ n ∧ i = .int .i64 j ∧ Hid (Prn b many (l ++ 123 :: partsT many deep (xs.take j)) wr) ∧ Hid (KeepP b w wr) ∧ Hid (∀ i, i < j → Q i)) (fun i _ => n - (intOf i).toNat)
  case atStart => exact ⟨0, Nat.zero_le _, rfl, H2', HK, Lib.hid (fun i hi => absurd hi (Nat.not_lt_zero i))⟩
  case round =>
    obtain ⟨j, hj, rfl, hP, hK, hQ⟩ := hrel
    by_cases hlt : j < n
    · obtain ⟨x, hx⟩ : ∃ x, xs[j]? = some x := ⟨_, List.getElem?_eq_getElem (by have := HN.out; omega)⟩
      have hlen : (l ++ 123 :: partsT many deep (xs.take (j + 1))).length + 100 ≤ M := by
        have h1 := HOP.out
        have h2 := partsT_le (many := many) (deep := deep) (xs := xs) (j + 1)
        simp only [List.length_append, List.length_cons]
        omega
      have hnx := partsT_take (many := many) (deep := deep) hx
      have e1 : l ++ 123 :: partsT many deep (xs.take (j + 1)) = ((l ++ 123 :: partsT many deep (xs.take j)) ++ preT many deep j) ++ x ++ postT many := by rw [hnx]; simp
      rw [e1] at hlen
      have HX := Lib.hid hx
      have HE := Lib.hid e1
      obtain ⟨l', hl'⟩ : ∃ l', l' = l ++ 123 :: partsT many deep (xs.take j) := ⟨_, rfl⟩
      rw [← hl'] at hlen
      have HL' := Lib.hid hl'
      have HLEN := Lib.hid hlen
      rw [← hl'] at hP
      clear hx hnx e1 hlen hl' H2'
      -- the world behind what stands ahead of the part
      have hm := hP.out.many_
      cases many with
      | true =>
        have hlb : ((l' ++ preT true deep j) ++ x ++ postT true).length = l'.length + (preT true deep j).length + x.length + 1 := by simp [postT]; omega
        have HLB := Lib.hid hlb
        have HRP := Lib.hid (rep2_any (deep + 1) (by omega) (IntKind.i64.wrap ((deep : Int) + 1)) (by rw [IntKind.wrap_i64]; omega))
        clear hlb
        have hcat : ¬ 9223372036854775807 < 1 + (indentT (deep + 1)).length := by simp [indentT]; omega
        have HPW : Hid (Prn b true l' wr.drew) := Lib.hid (hP.out.keep (Gx.drewN_below wr 1 _))
        have HKW : Hid (KeepP b w wr.drew) := Lib.hid (hK.out.trans (KeepP.of_below (Gx.drewN_below wr 1 _) (Nat.le_of_lt hP.out.lt)))
        have HLS : Hid (l'.length + ((⟨#[10]⟩ : ByteArray) ++ ⟨(indentT (deep + 1)).toArray⟩).size ≤ 140737488355328) := Lib.hid (by
          have := HLEN.out; rw [HLB.out] at this; rw [nl_size]; simp [indentT]; omega)
        have HLX : Hid ((l' ++ preT true deep j).length + x.length + 100 ≤ M) := Lib.hid (by
          have := HLEN.out; rw [HLB.out] at this; rw [List.length_append]; omega)
        have HLY : Hid (((l' ++ preT true deep j) ++ x).length + 1 ≤ 140737488355328) := Lib.hid (by
          have := HLEN.out; rw [HLB.out] at this; rw [List.length_append, List.length_append]; omega)
        clear hP hK HLB
        go_wp2_with fail
        clear hm
        go_region_law (first | (go_simp; (with_reducible refine (HRP.out _).mono ?_); rintro e w3 ⟨rfl, hb3⟩; have HB3 := Lib.hid hb3; clear hb3) | (go_simp; (with_reducible refine (writeStrP b true l' _ w3 (HPW.out.keep HB3.out) HLS.out).mono ?_); rintro e w4 ⟨rfl, h4, hb4, ho4, hz4⟩; have H4 := Lib.hid h4; have HK4 := Lib.hid (KeepP.mk hb4 ho4 hz4); clear h4 hb4 ho4 hz4))
        have H5 : Hid (Prn b true (l' ++ preT true deep j) w4) := Lib.hid (by have := H4.out; rw [nl_list] at this; exact this)
        have HK5 : Hid (KeepP b w w4) := Lib.hid ((HKW.out.trans (KeepP.of_below HB3.out (Nat.le_of_lt HPW.out.lt))).trans HK4.out)
        clear H4 HK4 HB3 HKW HPW HLS HRP hcat
        go_wp2_with fail
        refine (HONE.out j x HX.out w4 _ H5.out HK5.out HLX.out).mono ?_
        rintro e w6 ⟨⟨⟨v6, rfl⟩, h6, hk6⟩, hq6⟩
        have HQ6 : Hid (∀ i, i < j + 1 → Q i) := Lib.hid (fun i hi => by rcases Nat.lt_succ_iff_lt_or_eq.1 hi with h | h; exact hQ.out i h; rw [h]; exact hq6)
        have hm6 := h6.many_
        have HWB : Hid (Calls Tryz.prog 33 #[.pointer (some ⟨b, 0, none⟩), .int .u8 44] w6 (PrnPost .nilIface b true (((l' ++ preT true deep j) ++ x) ++ [44]) w6)) := Lib.hid (writeByteP b true _ 44 w6 h6 HLY.out)
        have HK6 := Lib.hid (HK5.out.trans hk6)
        clear h6 hk6 H5 HK5 HLX HLY
        go_wp2_with fail
        (with_reducible refine HWB.out.mono ?_)
        rintro e w7 ⟨rfl, h7, hb7, ho7, hz7⟩
        have H7 : Hid (Prn b true (l ++ 123 :: partsT true deep (xs.take (j + 1))) w7) := Lib.hid (by rw [HE.out, ← HL'.out]; exact h7)
        have HK7 := Lib.hid (HK6.out.trans (KeepP.mk hb7 ho7 hz7))
        clear h7 hb7 ho7 hz7 HWB HK6 HE HL' HLEN
        go_wp2_with fail
        go_roundw
        case rel => exact ⟨j + 1, by omega, by go_num, H7, HK7, HQ6⟩
        case measure => simp [intOf]; omega
      | false =>
        have hlb : ((l' ++ preT false deep j) ++ x ++ postT false).length = l'.length + (preT false deep j).length + x.length := by simp [postT]; omega
        have HLB := Lib.hid hlb
        clear hlb
        have HLX : Hid ((l' ++ preT false deep j).length + x.length + 100 ≤ M) := Lib.hid (by
          have := HLEN.out; rw [HLB.out] at this; rw [List.length_append]; omega)
        have HEND : Hid (∀ l2 : List UInt8, l2 = (l' ++ preT false deep j) ++ x → l2 = l ++ 123 :: partsT false deep (xs.take (j + 1))) := Lib.hid (fun l2 h2 => by rw [HE.out, ← HL'.out, h2]; simp [postT])
        by_cases hj0 : 0 < j
        · have hji : (0 : Int) < (j : Int) := by omega
          have HPR : Hid (preT false deep j = [44, 32]) := Lib.hid (by simp only [preT, Bool.false_eq_true, if_false]; rw [if_neg (by omega)])
          have HWS := Lib.hid (writeStrP b false l' ⟨#[44, 32]⟩ wr hP.out (by have := HLEN.out; rw [HLB.out, HPR.out] at this; show l'.length + 2 ≤ _; simp only [List.length_cons, List.length_nil] at this; omega))
          clear HLB
          go_wp2_with fail
          (with_reducible refine HWS.out.mono ?_)
          rintro e w4 ⟨rfl, h4, hb4, ho4, hz4⟩
          have H5 : Hid (Prn b false (l' ++ preT false deep j) w4) := Lib.hid (by rw [HPR.out]; exact h4)
          have HK5 := Lib.hid (hK.out.trans (KeepP.mk hb4 ho4 hz4))
          clear h4 hb4 ho4 hz4 HWS HPR hm hji hP hK
          go_wp2_with fail
          refine (HONE.out j x HX.out w4 _ H5.out HK5.out HLX.out).mono ?_
          rintro e w6 ⟨⟨⟨v6, rfl⟩, h6, hk6⟩, hq6⟩
          have HQ6 : Hid (∀ i, i < j + 1 → Q i) := Lib.hid (fun i hi => by rcases Nat.lt_succ_iff_lt_or_eq.1 hi with h | h; exact hQ.out i h; rw [h]; exact hq6)
          have hm6 := h6.many_
          have H7 : Hid (Prn b false (l ++ 123 :: partsT false deep (xs.take (j + 1))) w6) := Lib.hid (by rw [← HEND.out _ rfl]; exact h6)
          have HK7 := Lib.hid (HK5.out.trans hk6)
          clear h6 hk6 H5 HK5 HLX HEND HE HL' HLEN
          go_wp2_with fail
          go_roundw
          case rel => exact ⟨j + 1, by omega, by go_num, H7, HK7, HQ6⟩
          case measure => simp [intOf]; omega
        · obtain rfl : j = 0 := by omega
          have H5 : Hid (Prn b false (l' ++ preT false deep 0) wr) := Lib.hid (by simp only [preT, Bool.false_eq_true, if_false, if_true, List.append_nil]; exact hP.out)
          clear HLB
          go_wp2_with fail
          refine (HONE.out 0 x HX.out wr _ H5.out hK.out HLX.out).mono ?_
          rintro e w6 ⟨⟨⟨v6, rfl⟩, h6, hk6⟩, hq6⟩
          have HQ6 : Hid (∀ i, i < 0 + 1 → Q i) := Lib.hid (fun i hi => by rcases Nat.lt_succ_iff_lt_or_eq.1 hi with h | h; exact hQ.out i h; rw [h]; exact hq6)
          have hm6 := h6.many_
          have H7 : Hid (Prn b false (l ++ 123 :: partsT false deep (xs.take (0 + 1))) w6) := Lib.hid (by rw [← HEND.out _ rfl]; exact h6)
          have HK7 := Lib.hid (hK.out.trans hk6)
          clear h6 hk6 H5 hP hK HLX HEND HE HL' HLEN hm
          go_wp2_with fail
          go_roundw
          case rel => exact ⟨0 + 1, by omega, by go_num, H7, HK7, HQ6⟩
          case measure => simp [intOf]; omega
    · obtain rfl : j = n := by omega
      have hT : xs.take j = xs := by rw [← HN.out, List.take_length]
      rw [hT] at hP
      have hm := hP.out.many_
      have HW' := hP
      clear hT H2'
      cases many with
      | true =>
        by_cases hj0 : 0 < j
        · have hji : (0 : Int) < (j : Int) := by omega
          have HTL : Hid (tailT true deep j = 10 :: indentT deep) := Lib.hid (by simp [tailT, hj0])
          have HWC : Hid (∀ W : World, Prn b true (l ++ 123 :: (partsT true deep xs ++ tailT true deep j)) W → Calls Tryz.prog 33 #[.pointer (some ⟨b, 0, none⟩), .int .u8 (((⟨#[123, 125]⟩ : ByteArray)[1]'(by decide)).toNat : Nat)] W (PrnPost .nilIface b true ((l ++ 123 :: (partsT true deep xs ++ tailT true deep j)) ++ [125]) W)) := Lib.hid (fun W hW => writeByteP b true _ 125 W hW (by
            have h1 := HOP.out; have h2 := tailT_le true deep j
            simp only [List.length_append, List.length_cons]; omega))
          have hcat : ¬ 9223372036854775807 < 1 + (indentT deep).length := by simp [indentT]; omega
          have HRP := Lib.hid (rep2_any deep (by omega) (deep : Int) rfl)
          have HPW : Hid (Prn b true (l ++ 123 :: partsT true deep xs) wr.drew) := Lib.hid (hP.out.keep (Gx.drewN_below wr 1 _))
          have HKW : Hid (KeepP b w wr.drew) := Lib.hid (hK.out.trans (KeepP.of_below (Gx.drewN_below wr 1 _) (Nat.le_of_lt hP.out.lt)))
          have HLS : Hid ((l ++ 123 :: partsT true deep xs).length + ((⟨#[10]⟩ : ByteArray) ++ ⟨(indentT deep).toArray⟩).size ≤ 140737488355328) := Lib.hid (by
            have h1 := HOP.out; rw [nl_size]; simp only [List.length_append, List.length_cons, indentT, List.length_replicate]; omega)
          clear hP hK HW'
          go_wp2_with fail
          clear hm
          go_region_law (first | (go_simp; (with_reducible refine (HRP.out _).mono ?_); rintro e w3 ⟨rfl, hb3⟩; have HB3 := Lib.hid hb3; clear hb3) | (go_simp; (with_reducible refine (writeStrP b true _ _ w3 (HPW.out.keep HB3.out) HLS.out).mono ?_); rintro e w4 ⟨rfl, h4, hb4, ho4, hz4⟩; have H4 := Lib.hid h4; have HK4 := Lib.hid (KeepP.mk hb4 ho4 hz4); clear h4 hb4 ho4 hz4))
          have HQ : Hid (Prn b true (l ++ 123 :: (partsT true deep xs ++ tailT true deep j)) w4.drew) := Lib.hid (by
            have := H4.out; rw [nl_list] at this; rw [HTL.out]; exact (by simpa using this : Prn b true _ w4).keep (Gx.drewN_below w4 1 _))
          have HKQ : Hid (KeepP b w w4.drew) := Lib.hid (((HKW.out.trans (KeepP.of_below HB3.out (Nat.le_of_lt HPW.out.lt))).trans HK4.out).trans (KeepP.of_below (Gx.drewN_below w4 1 _) (Nat.le_of_lt H4.out.lt)))
          clear H4 HK4 HB3 HKW HPW HLS HRP hcat
          go_wp2_with fail
          go_region_law (first | (go_simp; (with_reducible refine (HWC.out _ HQ.out).mono ?_); rintro e w9 ⟨rfl, h9, hb9, ho9, hz9⟩; have H9 := Lib.hid h9; have HK9 := Lib.hid (KeepP.mk hb9 ho9 hz9); clear h9 hb9 ho9 hz9))
          go_wp2_with fail
          try go_end0
          exact ⟨⟨⟨_, rfl⟩, by have := H9.out; simpa using this, HKQ.out.trans HK9.out⟩, hQ.out⟩
        · obtain rfl : j = 0 := by omega
          have HWC : Hid (∀ W : World, Prn b true (l ++ 123 :: (partsT true deep xs ++ tailT true deep 0)) W → Calls Tryz.prog 33 #[.pointer (some ⟨b, 0, none⟩), .int .u8 (((⟨#[123, 125]⟩ : ByteArray)[1]'(by decide)).toNat : Nat)] W (PrnPost .nilIface b true ((l ++ 123 :: (partsT true deep xs ++ tailT true deep 0)) ++ [125]) W)) := Lib.hid (fun W hW => writeByteP b true _ 125 W hW (by
            have h1 := HOP.out; have h2 := tailT_le true deep 0
            simp only [List.length_append, List.length_cons]; omega))
          have HQ : Hid (Prn b true (l ++ 123 :: (partsT true deep xs ++ tailT true deep 0)) wr.drew) := Lib.hid (by
            have : Prn b true _ wr.drew := hP.out.keep (Gx.drewN_below wr 1 _); simpa [tailT] using this)
          have HKQ : Hid (KeepP b w wr.drew) := Lib.hid (hK.out.trans (KeepP.of_below (Gx.drewN_below wr 1 _) (Nat.le_of_lt hP.out.lt)))
          clear hP hK HW'
          go_wp2_with fail
          go_region_law (first | (go_simp; (with_reducible refine (HWC.out _ HQ.out).mono ?_); rintro e w9 ⟨rfl, h9, hb9, ho9, hz9⟩; have H9 := Lib.hid h9; have HK9 := Lib.hid (KeepP.mk hb9 ho9 hz9); clear h9 hb9 ho9 hz9))
          go_wp2_with fail
          try go_end0
          exact ⟨⟨⟨_, rfl⟩, by have := H9.out; simpa using this, HKQ.out.trans HK9.out⟩, hQ.out⟩
      | false =>
        have HWC : Hid (∀ W : World, Prn b false (l ++ 123 :: (partsT false deep xs ++ tailT false deep j)) W → Calls Tryz.prog 33 #[.pointer (some ⟨b, 0, none⟩), .int .u8 (((⟨#[123, 125]⟩ : ByteArray)[1]'(by decide)).toNat : Nat)] W (PrnPost .nilIface b false ((l ++ 123 :: (partsT false deep xs ++ tailT false deep j)) ++ [125]) W)) := Lib.hid (fun W hW => writeByteP b false _ 125 W hW (by
          have h1 := HOP.out; have h2 := tailT_le false deep j
          simp only [List.length_append, List.length_cons]; omega))
        have HQ : Hid (Prn b false (l ++ 123 :: (partsT false deep xs ++ tailT false deep j)) wr.drew) := Lib.hid (by
          have : Prn b false _ wr.drew := hP.out.keep (Gx.drewN_below wr 1 _); simpa [tailT] using this)
        have HKQ : Hid (KeepP b w wr.drew) := Lib.hid (hK.out.trans (KeepP.of_below (Gx.drewN_below wr 1 _) (Nat.le_of_lt hP.out.lt)))
        clear hP hK HW'
        go_wp2_with fail
        go_region_law (first | (go_simp; (with_reducible refine (HWC.out _ HQ.out).mono ?_); rintro e w9 ⟨rfl, h9, hb9, ho9, hz9⟩; have H9 := Lib.hid h9; have HK9 := Lib.hid (KeepP.mk hb9 ho9 hz9); clear h9 hb9 ho9 hz9))
        go_wp2_with fail
        try go_end0
        exact ⟨⟨⟨_, rfl⟩, by have := H9.out; simpa using this, HKQ.out.trans HK9.out⟩, hQ.out⟩
end Go.Proofs.YtldhmfkojaekfaaGreatDoor
