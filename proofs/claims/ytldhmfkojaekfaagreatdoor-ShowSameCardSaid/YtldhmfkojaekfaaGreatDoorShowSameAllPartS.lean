/-
  The contract of val.own: what can be said of a value without its parts. Conditions: Go's two tables of utf8 lie in the world.
  The contract of the iterator over a value's parts. Conditions: what a round writes is one block besides new ones.
  What lies in memory while val.check runs. No conditions.
  The contract of val.check. Conditions: Go's two tables of utf8 lie in the world.
  The contract of val.check where there is room. Conditions: Go's two tables of utf8 lie in the world.
  The contracts of val.check and val.Check, whatever is asked. Conditions: Go's two tables of utf8 lie in the world.
  The contracts of show.shown, Line and Show. Conditions: a value lies in memory; the library's tables lie in the world.
  Numbers of 64 bits, turned over. No conditions.
-/
import Derived.WalkLawsBesides
import Derived.Deep.DeepFit
import Derived.Outline
import Derived.Deep.DeepCutAuto
import Derived.Deep.CutBlock
import Derived.Laws.BitsAllLaws
import Derived.Test.YtldhmfkojaekfaaGreatDoorShowSameAllPartR
namespace Go.Proofs.YtldhmfkojaekfaaGreatDoor
open Go.RowKit Gx
set_option maxRecDepth 100000


set_option maxHeartbeats 2000000 in
theorem own_deep (k n f : Int) (s : ByteArray) (ad bd : Option Addr) (nl ne cl ce : Nat) (w : World) (a : Int) (h1 : 20 ≤ a) :
    Calls Tryz.prog 50 #[.agg #[.int .i64 k, .int .i64 n, .int .u64 f, .string s, .slice ad nl cl, .slice bd ne ce], .int .i64 a] w (OwnPost 5 w) := by
  have t20 : decide (20 ≤ a) = true := decide_eq_true h1
  go_enter Tryz.func50, Tryz.ntmps50
  go_wp2_with fail
  try go_ret
  exact ⟨rfl, (Below.refl _ w).alloc (Nat.le_refl _) _⟩
set_option maxHeartbeats 2000000 in
theorem own_out (k n f : Int) (s : ByteArray) (ad bd : Option Addr) (nl ne cl ce : Nat) (w : World) (a : Int) (h0 : 0 ≤ a) (h1 : a < 20) (hf0 : 0 ≤ f) (hf1 : f ≤ 18446744073709551615) (hk : k < 0 ∨ 6 < k) :
    Calls Tryz.prog 50 #[.agg #[.int .i64 k, .int .i64 n, .int .u64 f, .string s, .slice ad nl cl, .slice bd ne ce], .int .i64 a] w (OwnPost (ownE k n f s nl ne) w) := by
  have t20 : decide (20 ≤ a) = false := decide_eq_false (by omega)
  have k1 : (k == 1) = false := by simp; omega
  have k2 : (k == 2) = false := by simp; omega
  rcases hk with hk | hk
  · have u0 : decide (k < 0) = true := decide_eq_true hk
    have e : ownE k n f s nl ne = 10 := by simp [ownE, kindBad, u0, hk]
    go_enter Tryz.func50, Tryz.ntmps50
    go_wp2_with fail
    go_quiet (fail)
    go_wp2_with fail
    try go_ret
    exact ⟨by rw [e]; rfl, ((Below.refl _ w).alloc (Nat.le_refl _) _).trans (Gx.drewN_below _ _ _)⟩
  · have u0 : decide (k < 0) = false := decide_eq_false (by omega)
    have u1 : decide (6 < k) = true := decide_eq_true hk
    have e : ownE k n f s nl ne = 10 := by simp [ownE, kindBad, u0, hk]
    go_enter Tryz.func50, Tryz.ntmps50
    go_wp2_with fail
    go_quiet (fail)
    go_wp2_with fail
    try go_ret
    exact ⟨by rw [e]; rfl, ((Below.refl _ w).alloc (Nat.le_refl _) _).trans (Gx.drewN_below _ _ _)⟩
/-- whatever the kind -/
theorem own_all (k n f : Int) (s : ByteArray) (ad bd : Option Addr) (nl ne cl ce : Nat) (w : World) (a : Int) (h0 : 0 ≤ a) (h1 : a < 20) (hf0 : 0 ≤ f) (hf1 : f ≤ 18446744073709551615) (hl : nl ≤ 1000000000000000) (he : ne ≤ 1000000000000000) (hs : s.size ≤ 1000000000000000) (hT : Tabs w) :
    Calls Tryz.prog 50 #[.agg #[.int .i64 k, .int .i64 n, .int .u64 f, .string s, .slice ad nl cl, .slice bd ne ce], .int .i64 a] w (OwnPost (ownE k n f s nl ne) w) := by
  by_cases hk : k < 0 ∨ 6 < k
  · exact own_out k n f s ad bd nl ne cl ce w a h0 h1 hf0 hf1 hk
  have : k = 0 ∨ k = 1 ∨ k = 2 ∨ k = 3 ∨ k = 4 ∨ k = 5 ∨ k = 6 := by omega
  rcases this with rfl | rfl | rfl | rfl | rfl | rfl | rfl
  · exact own_0 n f s ad bd nl ne cl ce w a h0 h1 hf0 hf1 hl he hs hT
  · exact own_1 n f s ad bd nl ne cl ce w a h0 h1 hf0 hf1 hl he hs hT
  · exact own_2 n f s ad bd nl ne cl ce w a h0 h1 hf0 hf1 hl he hs hT
  · exact own_3 n f s ad bd nl ne cl ce w a h0 h1 hf0 hf1 hl he hs hT
  · exact own_4 n f s ad bd nl ne cl ce w a h0 h1 hf0 hf1 hl he hs hT
  · exact own_5 n f s ad bd nl ne cl ce w a h0 h1 hf0 hf1 hl he hs hT
  · exact own_6 n f s ad bd nl ne cl ce w a h0 h1 hf0 hf1 hl he hs hT
end Go.Proofs.YtldhmfkojaekfaaGreatDoor
namespace Go.Proofs.YtldhmfkojaekfaaGreatDoor
open Go.RowKit Go.Shelf Gx
attribute [local go_sem] Oper.semAt_some
set_option maxRecDepth 100000

theorem take_succ' {α : Type} {l : List α} {k : Nat} {x : α} (h : l[k]? = some x) : l.take (k + 1) = l.take k ++ [x] := by
  obtain ⟨hl, rfl⟩ := List.getElem?_eq_some_iff.1 h
  exact List.take_succ_eq_append_getElem hl
def ItPost {α : Type} (xs : List α) (J Jx : List α → World → Prop) (e : Ending) (w' : World) : Prop :=
  (∃ v, e = .returned v) ∧ ((∃ ys, ys = xs ∧ J ys w') ∨ (∃ pre, pre <+: xs ∧ Jx pre w'))

set_option maxHeartbeats 4000000 in
theorem parts1_in (n : Nat) (hn : 1 ≤ n) (l Bn n₀ M : Nat) (w0 : World) (q : Loc) (ls es : List (LocAt w0 n₀ M)) (hBn : Bw n₀ M Bn)
    (hls : LsAt w0 n₀ M q ls) (hes : EsAt w0 n₀ M q es) (hlb : ls.length ≤ 1000000000000000) (heb : es.length ≤ 1000000000000000)
    (J Jx : List (LocAt w0 n₀ M) → World → Prop) (W : World) (hW : KeM n₀ M w0 W) (hJ : AbidesFrom W.heap.size J)
    (hY : ∀ pre x W, J pre W → pre.length < ls.length + es.length → YieldAt Fence.wide (n - 1) Tryz.prog l #[x.1.val] W fun e W' =>
      (e = .returned (.bool true) ∧ J (pre ++ [x]) W' ∧ KeM n₀ M W W') ∨ (e = .returned (.bool false) ∧ Jx (pre ++ [x]) W'))
    (hb : W.heap[Bn]? = some (.cells #[.int .i64 q.v.k, .int .i64 q.v.n, .int .u64 q.v.f, .string q.v.s, .slice q.ad q.v.l.length q.cap, .slice q.bd q.v.e.length q.dap] 26)) (h0 : J [] W) :
    CallsIn Fence.wide n Tryz.prog 55 #[.func (.yield l) #[] #[], .pointer (some ⟨Bn, 0, none⟩)] W (ItPost (ls ++ es) J Jx) := by
  unfold Loc.val at hY
  have hBl : Bn < W.heap.size := (Array.getElem?_eq_some_iff.1 hb).1
  have c4 : W.cell? ⟨Bn, 4, none⟩ = some (.slice q.ad ls.length q.cap) := by rw [hls.len]; simp [World.cell?, hb]
  have c5 : ∀ w, KeM n₀ M W w → w.cell? ⟨Bn, 5, none⟩ = some (.slice q.bd es.length q.dap) := fun w hk => (hk.cell hBn hBl).trans (by rw [hes.len]; simp [World.cell?, hb])
  have hls := hls.2
  have hes := hes.2
  obtain ⟨v, ad, cap, bd, dap⟩ := q
  simp only at c4 c5 hls hes
  have C5 := Lib.hid c5
  have HJ := Lib.hid hJ
  have HY := Lib.hid hY
  have HLS := Lib.hid hls
  have HES := Lib.hid hes
  have HW := Lib.hid hW
  have H0 := Lib.hid h0
  obtain ⟨nl, hnl⟩ : ∃ nl, ls.length = nl := ⟨_, rfl⟩
  obtain ⟨ne, hne⟩ : ∃ ne, es.length = ne := ⟨_, rfl⟩
  rw [hnl] at c4 hlb
  rw [hne] at C5 heb
  have HNL := Lib.hid hnl
  have HNE := Lib.hid hne
  clear hb c5 hJ hY hls hes hW h0 hnl hne
  refine callsIn_of_wp Tryz.func55 rfl trivial ?_ rfl
  simp only [Tryz.ntmps55, List.size_toArray, List.length_cons, List.length_nil, Nat.reduceAdd, Nat.reduceSub, Array.replicate_succ, Array.replicate_zero, List.push_toArray, List.append_toArray, List.nil_append, List.cons_append]
  gi_wp2
  gi_loopw [10] (fun i wr => ∃ k : Nat, k ≤ nl ∧ i = .int .i64 k ∧ Hid (J (ls.take k) wr) ∧ Hid (KeM n₀ M W wr))
    (fun i _ => nl - (intOf i).toNat)
  case atStart => exact ⟨0, Nat.zero_le _, rfl, H0, Lib.hid (KeM.refl _ _ _)⟩
  case round =>
    obtain ⟨k, hk, rfl, hJs, hke⟩ := hrel
    by_cases hlt : k < nl
    · obtain ⟨x, hx⟩ : ∃ x, ls[k]? = some x := ⟨_, List.getElem?_eq_getElem (by rw [HNL.out]; exact hlt)⟩
      obtain ⟨b, off, rfl, hbb, hbl, g0, g1, g2, g3, g4, g5⟩ := HLS.out k x hx
      have hkk := HW.out.trans hke.out
      have q0 := (hkk.cell hbb hbl).trans g0
      have q1 := (hkk.cell hbb hbl).trans g1
      have q2 := (hkk.cell hbb hbl).trans g2
      have q3 := (hkk.cell hbb hbl).trans g3
      have q4 := (hkk.cell hbb hbl).trans g4
      have q5 := (hkk.cell hbb hbl).trans g5
      clear g0 g1 g2 g3 g4 g5 hkk
      have hJ2 : J (ls.take k) (wr.alloc (.cells #[.int .i64 x.1.v.k, .int .i64 x.1.v.n, .int .u64 x.1.v.f, .string x.1.v.s, .slice x.1.ad x.1.v.l.length x.1.cap, .slice x.1.bd x.1.v.e.length x.1.dap] 26)) := HJ.out _ _ _ none hJs.out (World.grownBy_alloc _ _ none) (fun r e => by cases e)
      have HX := Lib.hid hx
      obtain ⟨fn, tmps, assign, body, hy, hR⟩ := HY.out _ x _ hJ2 (by rw [List.length_take, HNL.out]; omega)
      have HR := Lib.hid hR
      clear hx hJ2 hR
      gi_wp2
      refine HR.out.mono ?_
      rintro e W3 (⟨rfl, hJ3, hk3⟩ | ⟨rfl, hJx3⟩)
      · have hke3 := (hke.out.trans (KeM.alloc n₀ M wr _)).trans hk3
        have HJ3 := Lib.hid hJ3
        have HKE3 := Lib.hid hke3
        clear hJ3 hke3 hk3
        gi_wp2
        go_roundw
        case rel => exact ⟨k + 1, by omega, by go_num, by rw [take_succ' HX.out]; exact HJ3, HKE3⟩
        case measure => simp [intOf]; omega
      · have HJX := Lib.hid hJx3
        clear hJx3
        gi_wp2
        refine bodyPost_ret (results_none rfl _ _ _) rfl ?_
        exact ⟨⟨_, rfl⟩, .inr ⟨_, (by rw [← take_succ' HX.out]; exact (List.take_prefix _ _).trans (List.prefix_append _ _)), HJX.out⟩⟩
    · obtain rfl : k = nl := by omega
      have hJ1 : J ls wr := by have := hJs.out; rwa [List.take_of_length_le (by rw [HNL.out]; exact Nat.le_refl _)] at this
      have HJ1 := Lib.hid hJ1
      have c5 := C5.out wr hke.out
      clear hJ1 hJs hk hlt
      obtain ⟨wo, hwo⟩ : ∃ wo : World, wo = wr := ⟨_, rfl⟩
      rw [← hwo] at hke HJ1 c5 ⊢
      clear hwo wr
      gi_wp2
      gi_loopw [22] (fun i wr => ∃ j : Nat, j ≤ ne ∧ i = .int .i64 j ∧ Hid (J (ls ++ es.take j) wr) ∧ Hid (KeM n₀ M wo wr))
        (fun i _ => ne - (intOf i).toNat)
      case atStart => exact ⟨0, Nat.zero_le _, rfl, (by rw [List.take_zero, List.append_nil]; exact HJ1), Lib.hid (KeM.refl _ _ _)⟩
      case round =>
        obtain ⟨j, hj, rfl, hJs, hke2⟩ := hrel
        by_cases hlt : j < ne
        · obtain ⟨x, hx⟩ : ∃ x, es[j]? = some x := ⟨_, List.getElem?_eq_getElem (by rw [HNE.out]; exact hlt)⟩
          obtain ⟨b, off, key, rfl, hbb, hbl, gk, gs⟩ := HES.out j x hx
          obtain ⟨g0, g1, g2, g3, g4, g5⟩ := gs.seven
          have hkk := (HW.out.trans hke.out).trans hke2.out
          have qk := (hkk.cell hbb hbl).trans gk
          have q0 := (hkk.cell hbb hbl).trans g0
          have q1 := (hkk.cell hbb hbl).trans g1
          have q2 := (hkk.cell hbb hbl).trans g2
          have q3 := (hkk.cell hbb hbl).trans g3
          have q4 := (hkk.cell hbb hbl).trans g4
          have q5 := (hkk.cell hbb hbl).trans g5
          clear gk gs g0 g1 g2 g3 g4 g5 hkk c5
          have hJ2 : J (ls ++ es.take j) (wr.alloc (.cells #[.string key, .int .i64 x.1.v.k, .int .i64 x.1.v.n, .int .u64 x.1.v.f, .string x.1.v.s, .slice x.1.ad x.1.v.l.length x.1.cap, .slice x.1.bd x.1.v.e.length x.1.dap] 44)) := HJ.out _ _ _ none hJs.out (World.grownBy_alloc _ _ none) (fun r e => by cases e)
          have HX := Lib.hid hx
          obtain ⟨fn, tmps, assign, body, hy, hR⟩ := HY.out _ x _ hJ2 (by rw [List.length_append, List.length_take, HNL.out, HNE.out]; omega)
          have HR := Lib.hid hR
          clear hx hJ2 hR
          gi_wp2
          refine HR.out.mono ?_
          rintro e W3 (⟨rfl, hJ3, hk3⟩ | ⟨rfl, hJx3⟩)
          · have hke3 := (hke2.out.trans (KeM.alloc n₀ M wr _)).trans hk3
            have HJ3 := Lib.hid hJ3
            have HKE3 := Lib.hid hke3
            clear hJ3 hke3 hk3
            gi_wp2
            go_roundw
            case rel => exact ⟨j + 1, by omega, by go_num, by rw [take_succ' HX.out, ← List.append_assoc]; exact HJ3, HKE3⟩
            case measure => simp [intOf]; omega
          · have HJX := Lib.hid hJx3
            clear hJx3
            gi_wp2
            refine bodyPost_ret (results_none rfl _ _ _) rfl ?_
            exact ⟨⟨_, rfl⟩, .inr ⟨_, (by rw [List.append_assoc, ← take_succ' HX.out]; exact List.prefix_append_right_inj _ |>.2 (List.take_prefix _ _)), HJX.out⟩⟩
        · obtain rfl : j = ne := by omega
          have hJ4 : J (ls ++ es) wr := by have := hJs.out; rwa [List.take_of_length_le (by rw [HNE.out]; exact Nat.le_refl _)] at this
          have HJ4 := Lib.hid hJ4
          clear hJ4 hJs c5
          gi_wp2
          go_end0
          exact ⟨⟨_, rfl⟩, .inl ⟨_, rfl, HJ4.out⟩⟩
end Go.Proofs.YtldhmfkojaekfaaGreatDoor
namespace Go.Proofs.YtldhmfkojaekfaaGreatDoor
open Go.RowKit Go.Shelf Gx
set_option maxRecDepth 100000

def ChkPost (r : Nat × Nat) (M : Nat) (w : World) (e : Ending) (w' : World) : Prop :=
  e = .returned (.int .i64 r.1) ∧ Boxed w' M 3 (.int .i64 r.2) ∧ w.grownBy w' (some M)

structure CE (w : World) (q : Loc) (a : Int) (M m : Nat) (r : Int) (W : World) : Prop where
  v : W.heap[w.heap.size]? = some (.cells q.cs.toArray 26)
  a : W.heap[w.heap.size + 1]? = some (.cells #[.int .i64 a] 3)
  p : W.heap[w.heap.size + 2]? = some (.cells #[.pointer (some ⟨M, 0, none⟩)] 64)
  r : Boxed W (w.heap.size + 3) 28 (.int .i64 r)
  m : Boxed W M 3 (.int .i64 m)
  g : w.grownBy W (some M)
  hM : M < w.heap.size
theorem grownBy_old {w : World} {W W' : World} {M k : Nat} (h : w.grownBy W (some M)) (g : W.grownBy W' (some k)) (hk : k = M ∨ w.heap.size ≤ k) : w.grownBy W' (some M) :=
  ⟨g.os.trans h.os, g.tape.trans h.tape, g.output.trans h.output, Nat.le_trans h.size g.size, fun i hi hne => by
    refine (g.block i (Nat.lt_of_lt_of_le hi h.size) (fun e => ?_)).trans (h.block i hi hne)
    have : i = k := Option.some.inj e
    rcases hk with rfl | hk
    · exact hne e
    · omega⟩
/-- the tables lie as they lay where a box was written -/
theorem Tabs.but {w w' : World} {M : Nat} {ty : TypeId} {m : Int} (h : Tabs w) (hM : Boxed w M ty (.int .i64 m)) (hg : w.grownBy w' (some M)) : Tabs w' := by
  have hc := hM.cell
  have lt : ∀ {b o : Nat} {v : Value}, w.cell? ⟨b, o, none⟩ = some v → b < w.heap.size := fun {b o v} hc => World.block_lt_of_cell? w ⟨b, o, none⟩ hc
  have h0 := h.1 0 (by decide)
  have h1 := (h.2 0 (by decide)).1
  have n0 : some 1 ≠ some M := fun e => by
    obtain rfl := Option.some.inj e
    rw [h0] at hc; simp at hc
  have n1 : some 2 ≠ some M := fun e => by
    obtain rfl := Option.some.inj e
    rw [show 2 * 0 = 0 from rfl, hc] at h1; simp at h1
  exact ⟨fun c hc => (World.cell?_of_block (hg.block _ (lt h0) n0)).trans (h.1 c hc),
    fun i hi => ⟨(World.cell?_of_block (hg.block _ (lt h1) n1)).trans (h.2 i hi).1, (World.cell?_of_block (hg.block _ (lt h1) n1)).trans (h.2 i hi).2⟩⟩
variable {w : World} {q : Loc} {a : Int} {M m : Nat} {r : Int} {W W' : World}
theorem CE.start (hM : Boxed w M 3 (.int .i64 m)) (q : Loc) (a : Int) : CE w q a M m 0 ((((w.alloc (.cells #[.int .i64 q.v.k, .int .i64 q.v.n, .int .u64 q.v.f, .string q.v.s, .slice q.ad q.v.l.length q.cap, .slice q.bd q.v.e.length q.dap] 26)).alloc
    (.cells #[.int .i64 a] 3)).alloc (.cells #[.pointer (some ⟨M, 0, none⟩)] 64)).alloc (.cells #[.int .i64 0] 28)) := by
  have hl := hM.lt
  refine ⟨?_, ?_, ?_, ?_, ((((hM.alloc _).alloc _).alloc _).alloc _), ?_, hl⟩
  · rw [Below.heap_alloc _ _ _ (by simp <;> omega), Below.heap_alloc _ _ _ (by simp <;> omega), Below.heap_alloc _ _ _ (by simp)]
    exact World.alloc_heap_new w _
  · rw [Below.heap_alloc _ _ _ (by simp <;> omega), Below.heap_alloc _ _ _ (by simp)]
    have := World.alloc_heap_new (w.alloc (.cells #[.int .i64 q.v.k, .int .i64 q.v.n, .int .u64 q.v.f, .string q.v.s, .slice q.ad q.v.l.length q.cap, .slice q.bd q.v.e.length q.dap] 26)) (.cells #[.int .i64 a] 3)
    rwa [World.size_alloc] at this
  · rw [Below.heap_alloc _ _ _ (by simp)]
    have := World.alloc_heap_new ((w.alloc (.cells #[.int .i64 q.v.k, .int .i64 q.v.n, .int .u64 q.v.f, .string q.v.s, .slice q.ad q.v.l.length q.cap, .slice q.bd q.v.e.length q.dap] 26)).alloc (.cells #[.int .i64 a] 3)) (.cells #[.pointer (some ⟨M, 0, none⟩)] 64)
    rwa [World.size_alloc, World.size_alloc] at this
  · have := World.alloc_heap_new (((w.alloc (.cells #[.int .i64 q.v.k, .int .i64 q.v.n, .int .u64 q.v.f, .string q.v.s, .slice q.ad q.v.l.length q.cap, .slice q.bd q.v.e.length q.dap] 26)).alloc (.cells #[.int .i64 a] 3)).alloc (.cells #[.pointer (some ⟨M, 0, none⟩)] 64)) (.cells #[.int .i64 0] 28)
    rwa [World.size_alloc, World.size_alloc, World.size_alloc] at this
  · have hb : Below w.heap.size w ((((w.alloc (.cells #[.int .i64 q.v.k, .int .i64 q.v.n, .int .u64 q.v.f, .string q.v.s, .slice q.ad q.v.l.length q.cap, .slice q.bd q.v.e.length q.dap] 26)).alloc
    (.cells #[.int .i64 a] 3)).alloc (.cells #[.pointer (some ⟨M, 0, none⟩)] 64)).alloc (.cells #[.int .i64 0] 28)) :=
      ((((Below.refl _ w).alloc (Nat.le_refl _) _).alloc (by simp) _).alloc (by simp <;> omega) _).alloc (by simp <;> omega) _
    exact ⟨hb.os, hb.tape, hb.output, hb.size, fun k hk _ => hb.block k hk⟩
theorem CE.size (h : CE w q a M m r W) : w.heap.size + 4 ≤ W.heap.size := by have := h.r.lt; omega
theorem CE.below (h : CE w q a M m r W) (hb : Below W.heap.size W W') : CE w q a M m r W' := by
  have hs := h.size
  have hM := h.hM
  exact ⟨(hb.block _ (by omega)).trans h.v, (hb.block _ (by omega)).trans h.a, (hb.block _ (by omega)).trans h.p, (hb.block _ (by omega)).trans h.r, (hb.block _ (by omega)).trans h.m,
    ⟨hb.os.trans h.g.os, hb.tape.trans h.g.tape, hb.output.trans h.g.output, Nat.le_trans h.g.size hb.size, fun k hk hne => (hb.block k (Nat.lt_of_lt_of_le hk h.g.size)).trans (h.g.block k hk hne)⟩, hM⟩
/-- M is written -/
theorem CE.turn (h : CE w q a M m r W) {m' : Nat} (hg : W.grownBy W' (some M)) (hm : Boxed W' M 3 (.int .i64 m')) : CE w q a M m' r W' := by
  have hs := h.size
  have hM := h.hM
  have hk : ∀ k, w.heap.size ≤ k → k < W.heap.size → W'.heap[k]? = W.heap[k]? := fun k h1 h2 => hg.block k h2 (fun e => by cases e; omega)
  exact ⟨(hk _ (by omega) (by omega)).trans h.v, (hk _ (by omega) (by omega)).trans h.a, (hk _ (by omega) (by omega)).trans h.p, (hk _ (by omega) (by omega)).trans h.r, hm, grownBy_old h.g hg (.inl rfl), hM⟩
/-- the result is written -/
theorem CE.res (h : CE w q a M m r W) (r' : Int) : CE w q a M m r' (W.setCell ⟨w.heap.size + 3, 0, none⟩ (.int .i64 r')) := by
  have hs := h.size
  have hM := h.hM
  have hg := grownBy_setCell' W (w.heap.size + 3) (.int .i64 r')
  have hk : ∀ k, k ≠ w.heap.size + 3 → k < W.heap.size → (W.setCell ⟨w.heap.size + 3, 0, none⟩ (.int .i64 r')).heap[k]? = W.heap[k]? := fun k h1 h2 => hg.block k h2 (fun e => h1 (Option.some.inj e))
  exact ⟨(hk _ (by omega) (by omega)).trans h.v, (hk _ (by omega) (by omega)).trans h.a, (hk _ (by omega) (by omega)).trans h.p, h.r.set _, (hk _ (by omega) (by omega)).trans h.m, grownBy_old h.g hg (.inr (by omega)), hM⟩
/-- many is counted up -/
theorem CE.up (h : CE w q a M m r W) : CE w q a M (m + 1) r (W.setCell ⟨M, 0, none⟩ (.int .i64 ((m : Int) + 1))) := by
  refine h.turn (grownBy_setCell' W M _) ?_
  have := h.m.set (.int .i64 ((m : Int) + 1))
  rwa [show ((m : Int) + 1) = ((m + 1 : Nat) : Int) by omega] at this ⊢
theorem CE.cells (h : CE w q a M m r W) : W.cell? ⟨w.heap.size + 1, 0, none⟩ = some (.int .i64 a) ∧ W.cell? ⟨w.heap.size + 1 + 1, 0, none⟩ = some (.pointer (some ⟨M, 0, none⟩)) ∧ W.cell? ⟨w.heap.size + 1 + 1 + 1, 0, none⟩ = some (.int .i64 r) ∧
    W.cell? ⟨M, 0, none⟩ = some (.int .i64 m) ∧ W.frozen? ⟨M, 0, none⟩ = false ∧ W.frozen? ⟨w.heap.size + 1 + 1 + 1, 0, none⟩ = false ∧ M < W.heap.size ∧ w.heap.size + 1 + 1 + 1 < W.heap.size :=
  ⟨by simp [World.cell?, h.a], by simp [World.cell?, h.p], h.r.cell, h.m.cell, h.m.frozen, h.r.frozen, h.m.lt, h.r.lt⟩
/-- it abides what the loop's own book-keeping does -/
theorem CE.own (h : CE w q a M m r W) {row : Option Nat} (hg : W.grownBy W' row) (hr : ∀ k, row = some k → w.heap.size ≤ k ∧ ∃ o : Obj, W.heap[k]? = some o ∧ o.isCells = false) : CE w q a M m r W' := by
  have hs := h.size
  have hM := h.hM
  have hk : ∀ (k : Nat) (cs : Array Value) (ty : TypeId) (fz : Nat × Nat), W.heap[k]? = some (Obj.cells cs ty fz) → W'.heap[k]? = W.heap[k]? := fun k cs ty fz hc => hg.block k (Array.getElem?_eq_some_iff.1 hc).1 (fun e => by
    obtain ⟨-, o, ho, hc2⟩ := hr k e.symm
    rw [hc] at ho; cases ho; cases hc2)
  refine ⟨(hk _ _ _ _ h.v).trans h.v, (hk _ _ _ _ h.a).trans h.a, (hk _ _ _ _ h.p).trans h.p, (hk _ _ _ _ h.r).trans h.r, (hk _ _ _ _ h.m).trans h.m,
    ⟨hg.os.trans h.g.os, hg.tape.trans h.g.tape, hg.output.trans h.g.output, Nat.le_trans h.g.size hg.size, fun k hk' hne => ?_⟩, hM⟩
  refine (hg.block k (Nat.lt_of_lt_of_le hk' h.g.size) (fun e => ?_)).trans (h.g.block k hk' hne)
  have := (hr k e.symm).1
  omega
theorem CE.vc (h : CE w q a M m r W) : CellsAt W w.heap.size 0 q := CellsAt.box h.v
end Go.Proofs.YtldhmfkojaekfaaGreatDoor
namespace Go.Proofs.YtldhmfkojaekfaaGreatDoor
open Go.RowKit Go.Shelf Gx
attribute [local go_sem] Oper.semAt_some
set_option maxRecDepth 100000

set_option maxHeartbeats 4000000 in
/-- too deep, or too many -/
theorem check_zero (q : Loc) (a : Int) (m m1 M : Nat) (w : World) (hM : Boxed w M 3 (.int .i64 m)) (hm : m ≤ 2000) (hm1 : m + 1 = m1) (r : Nat) (hd : (2000 < m1 ∧ r = 2) ∨ (m1 ≤ 2000 ∧ a = 20 ∧ r = 5)) :
    Calls Tryz.prog 27 #[q.val, .int .i64 a, .pointer (some ⟨M, 0, none⟩)] w (ChkPost (r, m1) M w) := by
  have HE := Lib.hid (CE.start hM q a)
  unfold Loc.val
  refine callsIn_wide.1 (callsIn_of_wp_marks (n := 9) Tryz.func27 rfl trivial ?_)
  simp only [Tryz.ntmps27, List.size_toArray, List.length_cons, List.length_nil, Nat.reduceAdd, Nat.reduceSub, Array.replicate_succ, Array.replicate_zero, List.push_toArray, List.append_toArray, List.nil_append, List.cons_append]
  refine wpIn_wide.2 ?_
  clear hM
  have HM1 := Lib.hid hm1
  clear hm1
  go_upto_region 1 with fail
  generalize hw4 : World.alloc _ _ = w4 at HE ⊢
  clear hw4
  obtain ⟨ca, cp, cr, cm, fm, fr, lm, lr⟩ := HE.out.cells
  go_upto_region 2 with fail
  have HE5 := Lib.hid HE.out.up
  generalize hw5 : World.setCell _ _ _ = w5 at HE5 ⊢
  clear hw5 HE ca cp cr cm fm fr lm lr
  rw [HM1.out] at HE5
  obtain ⟨ca, cp, cr, cm, fm, fr, lm, lr⟩ := HE5.out.cells
  obtain ⟨c0, c1, c2, c3, c4, c5⟩ := HE5.out.vc
  have hm2 : m1 ≤ 2001 := by have := HM1.out; omega
  clear hm
  rcases hd with ⟨hlg, rfl⟩ | ⟨hlg, rfl, rfl⟩
  · have t1 : decide ((2000 : Int) < (m1 : Int)) = true := decide_eq_true (by omega)
    clear hlg c0 c1 c2 c3 c4 c5
    go_wp2_with fail
    exact ⟨_, by simp [results, Tryz.results27, go_sem, (HE5.out.res 2).cells.2.2.1], rfl, (HE5.out.res 2).m, (HE5.out.res 2).g⟩
  · have t1 : decide ((2000 : Int) < (m1 : Int)) = false := decide_eq_false (by omega)
    clear hlg
    go_wp2_with fail
    refine (own_deep q.v.k q.v.n q.v.f q.v.s q.ad q.bd q.v.l.length q.v.e.length q.cap q.dap _ 20 (by decide)).mono ?_
    rintro e w6 ⟨rfl, hb6⟩
    have HE6 := Lib.hid (HE5.out.below hb6)
    clear HE5 hb6 ca cp cr cm fm fr lm lr c0 c1 c2 c3 c4 c5
    obtain ⟨ca, cp, cr, cm, fm, fr, lm, lr⟩ := HE6.out.cells
    rw [show ((5 : Nat) : Int) = 5 from rfl]
    go_wp2_with fail
    exact ⟨_, by simp [results, Tryz.results27, go_sem, (HE6.out.res 5).cells.2.2.1], rfl, (HE6.out.res 5).m, (HE6.out.res 5).g⟩
end Go.Proofs.YtldhmfkojaekfaaGreatDoor
namespace Go.Proofs.YtldhmfkojaekfaaGreatDoor
open Go.RowKit Go.Shelf Gx
attribute [local go_sem] Oper.semAt_some
set_option maxRecDepth 100000

def vsOf {w : World} {n₀ M : Nat} (pre : List (LocAt w n₀ M)) : List V := pre.map fun x => x.1.v
theorem vsOf_snoc {w : World} {n₀ M : Nat} (pre : List (LocAt w n₀ M)) (x : LocAt w n₀ M) : vsOf (pre ++ [x]) = vsOf pre ++ [x.1.v] := by simp [vsOf]
/-- what check says where there is room -/
noncomputable def chkM (f : V → Nat → Nat × Nat) (v : V) (m : Nat) : Nat × Nat := if ownV v ≠ 0 then (ownV v, m) else if keyE none v.e ≠ 0 then (keyE none v.e, m) else chkAll f v.parts m

set_option maxHeartbeats 4000000 in
theorem check_more (q : Loc) (a : Int) (m m1 M : Nat) (w : World) (hM : Boxed w M 3 (.int .i64 m)) (hm1 : m + 1 = m1) (hm2 : m1 ≤ 2000) (ha : 0 ≤ a) (ha2 : a < 20) (hT : Tabs w) (hv : VAt w (Bw w.heap.size M) q)
    (f : V → Nat → Nat × Nat) (hf : ∀ x m, m ≤ 2000 → (f x m).2 ≤ 2001 ∧ ((f x m).1 = 0 → (f x m).2 ≤ 2000))
    (ih : ∀ (p : Loc) (m M : Nat) (w : World), Boxed w M 3 (.int .i64 m) → m ≤ 2000 → Tabs w → VAt w (Bw w.heap.size M) p →
      Calls Tryz.prog 27 #[p.val, .int .i64 (a + 1), .pointer (some ⟨M, 0, none⟩)] w (ChkPost (f p.v m) M w)) (r : Nat × Nat) (hr : chkM f q.v m1 = r) :
    Calls Tryz.prog 27 #[q.val, .int .i64 a, .pointer (some ⟨M, 0, none⟩)] w (ChkPost r M w) := by
  obtain ⟨v, ad, cap, bd, dap⟩ := q
  simp only at hv hr
  have HE := Lib.hid (CE.start hM ⟨v, ad, cap, bd, dap⟩ a)
  have HMB := Lib.hid hM
  have HM3 := Lib.hid hm2
  have HR := Lib.hid hr
  have HF := Lib.hid hf
  have IH := Lib.hid ih
  have HV := Lib.hid hv
  have HT := Lib.hid hT
  have HM1 := Lib.hid hm1
  have hne := hv.e.ebound
  have hnl := hv.l.lbound
  simp only at hne hnl
  have hwf := Lib.hid hv.wf
  clear hr hf ih hv hT hm1
  unfold Loc.val
  refine callsIn_wide.1 (callsIn_of_wp_marks (n := 9) Tryz.func27 rfl trivial ?_)
  simp only [Tryz.ntmps27, List.size_toArray, List.length_cons, List.length_nil, Nat.reduceAdd, Nat.reduceSub, Array.replicate_succ, Array.replicate_zero, List.push_toArray, List.append_toArray, List.nil_append, List.cons_append]
  refine wpIn_wide.2 ?_
  clear hM
  go_upto_region 1 with fail
  generalize hw4 : World.alloc _ _ = w4 at HE ⊢
  clear hw4
  obtain ⟨ca, cp, cr, cm, fm, fr, lm, lr⟩ := HE.out.cells
  have hm0 : m ≤ 2000 := by have := HM1.out; omega
  go_upto_region 2 with fail
  have HE5 := Lib.hid HE.out.up
  generalize hw5 : World.setCell _ _ _ = w5 at HE5 ⊢
  clear hw5 HE ca cp cr cm fm fr lm lr
  rw [HM1.out] at HE5
  obtain ⟨ca, cp, cr, cm, fm, fr, lm, lr⟩ := HE5.out.cells
  obtain ⟨c0, c1, c2, c3, c4, c5⟩ := HE5.out.vc
  simp only at c0 c1 c2 c3 c4 c5
  clear hm0
  have t1 : decide ((2000 : Int) < (m1 : Int)) = false := decide_eq_false (by omega)
  go_wp2_with fail
  have hT5 : Tabs w5 := HT.out.but HMB.out HE5.out.g
  obtain ⟨o, ho⟩ : ∃ o, ownV v = o := ⟨_, rfl⟩
  have hown := own_all v.k v.n v.f v.s ad bd v.l.length v.e.length cap dap w5 a ha ha2 hwf.out.f0 hwf.out.f1 (by omega) (by omega) (by have := hwf.out.s1; omega) hT5
  rw [show ownE v.k v.n v.f v.s v.l.length v.e.length = o from ho] at hown
  have HO := Lib.hid ho
  clear ho hT5
  refine hown.mono ?_
  clear hown
  rintro e w6 ⟨rfl, hb6⟩
  have HE6 := Lib.hid (HE5.out.below hb6)
  clear HE5 hb6 ca cp cr cm fm fr lm lr c0 c1 c2 c3 c4 c5 t1
  obtain ⟨ca, cp, cr, cm, fm, fr, lm, lr⟩ := HE6.out.cells
  obtain ⟨c0, c1, c2, c3, c4, c5⟩ := HE6.out.vc
  simp only at c0 c1 c2 c3 c4 c5
  by_cases ho0 : o = 0
  · subst ho0
    clear c0 c1 c2 c3 c4
    have hchk : chkM f v m1 = if keyE none v.e ≠ 0 then (keyE none v.e, m1) else chkAll f v.parts m1 := by unfold chkM; rw [HO.out, if_neg (fun h => h rfl)]
    rw [HR.out] at hchk
    have HR2 := Lib.hid hchk
    clear hchk hm2 hnl
    obtain ⟨ne, hne'⟩ : ∃ ne, v.e.length = ne := ⟨_, rfl⟩
    rw [hne'] at c5 hne
    have HNE := Lib.hid hne'
    clear hne'
    go_wp2_with fail
    go_loopw [30] (fun v30 wr => ∃ k : Nat, k ≤ ne ∧ v30 = .int .i64 k ∧ Hid (CE w ⟨v, ad, cap, bd, dap⟩ a M m1 0 wr) ∧ Hid (keyE (prevK v.e k) (v.e.drop k) = keyE none v.e)) (fun v30 _ => ne - (intOf v30).toNat)
    case atStart => exact ⟨0, Nat.zero_le _, rfl, HE6, rfl⟩
    case round =>
      obtain ⟨k, hk, rfl, HEr, HK⟩ := hrel
      clear HE6 ca cp cr cm fm fr lm lr c5
      by_cases hlt : k < ne
      · obtain ⟨x, hx⟩ : ∃ x, v.e[k]? = some x := ⟨_, List.getElem?_eq_getElem (by rw [HNE.out]; exact hlt)⟩
        obtain ⟨b, off, hbd, hBb, hbl, hcs⟩ := HV.out.e.entry (by show 0 < v.e.length; rw [HNE.out]; omega)
        simp only at hbd
        subst hbd
        obtain ⟨hxs, gk, p, hp, -, gs⟩ := hcs k x hx
        have HCS := Lib.hid hcs
        have hbk : wr.heap[b]? = w.heap[b]? := HEr.out.g.block b hbl (fun e => hBb.2 (Option.some.inj e))
        have gk' : wr.cell? ⟨b, off + k * 7, none⟩ = _ := (World.cell?_of_block hbk).trans gk
        obtain ⟨g0, g1, g2, g3, g4, g5⟩ := (gs.through hbk).seven
        have HX := Lib.hid hx
        have hxs2 : x.1.size ≤ 140737488351232 := hxs
        have HEX := Lib.hid (HEr.out.below ((Below.refl _ wr).alloc (Nat.le_refl _) (.cells #[.string x.1, .int .i64 p.v.k, .int .i64 p.v.n, .int .u64 p.v.f, .string p.v.s, .slice p.ad p.v.l.length p.cap, .slice p.bd p.v.e.length p.dap] 44)))
        have hkey : (wr.alloc (.cells #[.string x.1, .int .i64 p.v.k, .int .i64 p.v.n, .int .u64 p.v.f, .string p.v.s, .slice p.ad p.v.l.length p.cap, .slice p.bd p.v.e.length p.dap] 44)).cell? ⟨wr.heap.size, 0, none⟩ = some (.string x.1) := by
          simp
        clear gk gs hp hcs hx hbk
        go_upto_region 10 with fail
        generalize hw9 : World.alloc wr _ = w9 at HEX hkey ⊢
        clear hw9 gk' g0 g1 g2 g3 g4 g5
        obtain ⟨ca, cp, cr, cm, fm, fr, lm, lr⟩ := HEX.out.cells
        by_cases hbig : 100 < x.1.size
        · have t3 : decide ((100 : Int) < (x.1.size : Int)) = true := decide_eq_true (by omega)
          have hke : keyE none v.e = 2 := by rw [← HK.out, keyE_drop HX.out, if_pos hbig]
          have hrr : r = (2, m1) := by rw [HR2.out, hke]; rfl
          subst hrr
          clear hke hbig
          go_wp2_with fail
          exact ⟨_, by simp [results, Tryz.results27, go_sem, (HEX.out.res 2).cells.2.2.1], rfl, (HEX.out.res 2).m, (HEX.out.res 2).g⟩
        · have t3 : decide ((100 : Int) < (x.1.size : Int)) = false := decide_eq_false (by omega)
          go_wp2_with fail
          refine (bad_any x.1 _ (HT.out.but HMB.out HEX.out.g) (by omega)).mono ?_
          rintro e w10 ⟨bi, rfl, hbi, hb10⟩
          have HE10 := Lib.hid (HEX.out.below hb10)
          have HB10 := Lib.hid hb10
          clear ca cp cr cm fm fr lm lr hb10
          obtain ⟨ca, cp, cr, cm, fm, fr, lm, lr⟩ := HE10.out.cells
          by_cases hok : okText x.1.data.toList
          · have t4 : decide (0 ≤ bi) = false := decide_eq_false (by have := hbi.2 hok; omega)
            clear hbi
            have hkey10 : w10.cell? ⟨wr.heap.size, 0, none⟩ = some (.string x.1) := (HB10.out.cell (p := ⟨wr.heap.size, 0, none⟩) (World.block_lt_of_cell? _ _ hkey)).trans hkey
            have hke0 := HK.out
            rw [keyE_drop HX.out, if_neg hbig, if_neg (fun h => h hok)] at hke0
            clear hkey hxs hxs2 hbig hok
            by_cases hk0 : k = 0
            · have g1 : decide ((0 : Int) < (k : Int)) = false := decide_eq_false (by omega)
              have g2 : decide (0 < k) = false := decide_eq_false (by omega)
              have hkb : keyBad (prevK v.e k) x.1 = false := by rw [hk0]; rfl
              rw [if_neg (by rw [hkb]; decide)] at hke0
              have HK2 := Lib.hid hke0
              clear hke0 hkb hk0
              go_wp2_with fail
              go_quiet (fail)
              have HE11 := Lib.hid (HE10.out.below (Gx.drewN_below w10 nq _))
              clear HE10
              go_wp2_with fail
              go_roundw
              case rel => exact ⟨k + 1, by omega, by go_num, HE11, HK2⟩
              case measure => simp [intOf]; omega
            · obtain ⟨j, hj⟩ : ∃ j : Nat, (k : Int) - 1 = (j : Int) := ⟨k - 1, by omega⟩
              have hkj : k = j + 1 := by omega
              have g1 : decide ((0 : Int) < (k : Int)) = true := decide_eq_true (by omega)
              have g2 : decide (0 < k) = true := decide_eq_true (by omega)
              obtain ⟨y, hy⟩ : ∃ y, v.e[j]? = some y := ⟨_, List.getElem?_eq_getElem (by rw [HNE.out]; omega)⟩
              have gy := (HCS.out j y hy).2.1
              have hbk : w10.heap[b]? = w.heap[b]? := HE10.out.g.block b hbl (fun e => hBb.2 (Option.some.inj e))
              have gy' : w10.cell? ⟨b, off + j * 7, none⟩ = some (.string y.1) := (World.cell?_of_block hbk).trans gy
              have c5 : w10.cell? ⟨w.heap.size, 5, none⟩ = some (.slice (some ⟨b, off, none⟩) ne dap) := by have := HE10.out.vc.c5; simp only [HNE.out] at this; exact this
              have hpk : prevK v.e k = some y.1 := by unfold prevK; rw [if_neg hk0, hkj, Nat.add_sub_cancel, hy]; rfl
              have hkb : keyBad (prevK v.e k) x.1 = !(Op.bytesLess y.1.toList x.1.toList) := by rw [hpk]; rfl
              have q1 : (0 : Int) ≤ (j : Int) := by omega
              have q2 : (j : Int) < (ne : Int) := by omega
              have q3 : (j : Int).toNat = j := rfl
              have q4 : j < ne := by omega
              have HKJ := Lib.hid hkj
              clear hy gy hbk hpk hkj hk0
              cases hbl2 : Op.bytesLess y.1.toList x.1.toList with
              | true =>
                rw [hkb, hbl2, if_neg (by decide)] at hke0
                have HK2 := Lib.hid hke0
                clear hke0 hkb
                go_wp2_with fail
                go_quiet (fail)
                have HE11 := Lib.hid (HE10.out.below (Gx.drewN_below w10 nq _))
                clear HE10
                go_wp2_with fail
                go_roundw
                case rel => exact ⟨k + 1, by omega, by go_num, HE11, HK2⟩
                case measure => simp [intOf]; omega
              | false =>
                have hke : keyE none v.e = 14 := by rw [← hke0, hkb, hbl2, if_pos (by decide)]
                have hrr : r = (14, m1) := by rw [HR2.out, hke]; rfl
                subst hrr
                clear hke hke0 hkb
                go_wp2_with fail
                go_quiet (fail)
                have HE11 := Lib.hid (HE10.out.below (Gx.drewN_below w10 nq _))
                clear HE10 ca cp cr cm fm fr lm lr
                obtain ⟨ca, cp, cr, cm, fm, fr, lm, lr⟩ := HE11.out.cells
                go_wp2_with fail
                exact ⟨_, by simp [results, Tryz.results27, go_sem, (HE11.out.res 14).cells.2.2.1], rfl, (HE11.out.res 14).m, (HE11.out.res 14).g⟩
          · have t4 : decide (0 ≤ bi) = true := decide_eq_true (Int.not_lt.1 (fun h => hok (hbi.1 h)))
            have hke : keyE none v.e = 3 := by rw [← HK.out, keyE_drop HX.out, if_neg hbig, if_pos hok]
            have hrr : r = (3, m1) := by rw [HR2.out, hke]; rfl
            subst hrr
            clear hke hbig hbi hok
            go_wp2_with fail
            exact ⟨_, by simp [results, Tryz.results27, go_sem, (HE10.out.res 3).cells.2.2.1], rfl, (HE10.out.res 3).m, (HE10.out.res 3).g⟩
      · obtain rfl : k = ne := by omega
        have hke : keyE none v.e = 0 := by rw [← HK.out]; have := keyE_end v.e (prevK v.e k); rwa [HNE.out] at this
        have hrr : r = chkAll f v.parts m1 := by rw [HR2.out, hke]; rfl
        have HRR := Lib.hid hrr
        obtain ⟨ca, cp, cr, cm, fm, fr, lm, lr⟩ := HEr.out.cells
        obtain ⟨c0, c1, c2, c3, c4, c5⟩ := HEr.out.vc
        simp only at c0 c1 c2 c3 c4 c5
        have hpt := parts_any ⟨v, ad, cap, bd, dap⟩ wr
        simp only [Loc.val] at hpt
        have HPT := Lib.hid hpt
        clear hke hrr hpt hlt hk
        go_wp2_with fail
        refine HPT.out.mono ?_
        rintro e w11 ⟨rfl, rfl⟩
        go_wp2_with fail
        have hce := HEr.out.below ((Below.refl _ wr).alloc (Nat.le_refl _) (.cells #[.int .i64 v.k, .int .i64 v.n, .int .u64 v.f, .string v.s, .slice ad v.l.length cap, .slice bd v.e.length dap] 26))
        have hbx : (wr.alloc (.cells #[.int .i64 v.k, .int .i64 v.n, .int .u64 v.f, .string v.s, .slice ad v.l.length cap, .slice bd v.e.length dap] 26)).heap[wr.heap.size]? = some (.cells #[.int .i64 v.k, .int .i64 v.n, .int .u64 v.f, .string v.s, .slice ad v.l.length cap, .slice bd v.e.length dap] 26) := heap_alloc_new wr _
        have hsz : (wr.alloc (.cells #[.int .i64 v.k, .int .i64 v.n, .int .u64 v.f, .string v.s, .slice ad v.l.length cap, .slice bd v.e.length dap] 26)).heap.size = wr.heap.size + 1 := by simp
        have hwr := HEr.out.size
        have hMw := HEr.out.hM
        obtain ⟨W0, hW0⟩ : ∃ W0, wr.alloc (.cells #[.int .i64 v.k, .int .i64 v.n, .int .u64 v.f, .string v.s, .slice ad v.l.length cap, .slice bd v.e.length dap] 26) = W0 := ⟨_, rfl⟩
        rw [hW0] at hce hbx hsz ⊢
        have hv0 : VAt W0 (Bw W0.heap.size M) ⟨v, ad, cap, bd, dap⟩ := HV.out.through hce.g.size (fun b hb hl => hce.g.block b hl (fun e => hb.2 (Option.some.inj e))) (fun b hb hl => ⟨by omega, hb.2⟩)
        obtain ⟨ls, es, hls, hes⟩ := locs_of hv0
        have hmap : vsOf (ls ++ es) = v.parts := by unfold vsOf; rw [List.map_append, hls.1, hes.1]; rfl
        have hlb : ls.length ≤ 1000000000000000 := by rw [hls.len]; have := HV.out.l.lbound; simp only at this ⊢; omega
        have heb : es.length ≤ 1000000000000000 := by rw [hes.len]; have := HV.out.e.ebound; simp only at this ⊢; omega
        have HM2 := HM3
        clear hW0 ca cp cr cm fm fr lm lr c0 c1 c2 c3 c4 c5
        refine (wpIn_wide (n := 5)).1 ?_
        refine wpIn_rangeFunc_ownH (encs := fun x : LocAt W0 W0.heap.size M => #[x.1.val]) (Kp := KeM W0.heap.size M) (S := fun ys => ys = ls ++ es) (Sp := fun pre => pre <+: ls ++ es) (N := ls.length + es.length) (w0 := W0)
          rfl (by decide) (gf := 55) (lb := #[.pointer (some ⟨wr.heap.size, 0, none⟩)]) rfl trivial (enters_of Tryz.func55 (by kernel_rfl) rfl)
          (fun l J Jx W hW hJ hJx hY h0 => parts1_in 4 (by decide) l wr.heap.size W0.heap.size M W0 ⟨v, ad, cap, bd, dap⟩ ls es ⟨by omega, by omega⟩ hls hes hlb heb J Jx W ⟨hW.size, fun k hk hl => hW.block k hl⟩ hJ hY ((hW.block _ (by omega)).trans hbx) h0)
          (fun h k => h.trans k) (KeM.put (Nat.le_refl _)) (Below.refl _ _) (fun _ => rfl)
          (fun pre W => ((chkAll f (vsOf pre) m1).1 = 0 ∧ (chkAll f (vsOf pre) m1).2 ≤ 2000) ∧ CE w ⟨v, ad, cap, bd, dap⟩ a M (chkAll f (vsOf pre) m1).2 0 W ∧ KeM W0.heap.size M W0 W)
          (fun c pre W => (c = .ret ∧ (chkAll f (vsOf pre) m1).1 ≠ 0) ∧ CE w ⟨v, ad, cap, bd, dap⟩ a M (chkAll f (vsOf pre) m1).2 (chkAll f (vsOf pre) m1).1 W)
          (fun s A B row hs hg hr => ⟨hs.1, hs.2.1.own hg (fun k e => ⟨by have := (hr k e).1; omega, (hr k e).2⟩), hs.2.2.trans (KeM.grow hg (fun k e hb => by have := (hr k e).1; have := hb.1; omega))⟩)
          (fun c s A B row hs hg hr => ⟨hs.1, hs.2.own hg (fun k e => ⟨by have := (hr k e).1; omega, (hr k e).2⟩)⟩)
          ⟨⟨rfl, HM2.out⟩, hce, KeM.refl _ _ _⟩
          (fun x a' W => ∃ Bx : Nat, W.heap[Bx]? = some (.cells #[.int .i64 x.1.v.k, .int .i64 x.1.v.n, .int .u64 x.1.v.f, .string x.1.v.s, .slice x.1.ad x.1.v.l.length x.1.cap, .slice x.1.bd x.1.v.e.length x.1.dap] 26) ∧ a' = { tmps := #[.agg #[.int .i64 v.k, .int .i64 v.n, .int .u64 v.f, .string v.s, .slice ad v.l.length cap, .slice bd v.e.length dap], .int .i64 a, .pointer (some ⟨M, 0, none⟩), .pointer (some ⟨w.heap.size, 0, none⟩), .pointer (some ⟨w.heap.size + 1, 0, none⟩), .pointer (some ⟨w.heap.size + 1 + 1, 0, none⟩), .pointer (some ⟨w.heap.size + 1 + 1 + 1, 0, none⟩), .int .i64 0, u8, u9, .pointer (some ⟨Bx, 0, none⟩), undef, .pointer (some ⟨M, 0, none⟩), .pointer (some ⟨M, 0, none⟩), .int .i64 m, .int .i64 (m + 1), .pointer (some ⟨M, 0, none⟩), .pointer (some ⟨M, 0, none⟩), .pointer (some ⟨M, 0, none⟩), .int .i64 m1, .bool false, .agg #[.int .i64 v.k, .int .i64 v.n, .int .u64 v.f, .string v.s, .slice ad v.l.length cap, .slice bd v.e.length dap], .int .i64 a, .int .i64 0, .int .i64 0, .bool false, undef, .pointer (some ⟨w.heap.size, 5, none⟩), .slice bd k dap, .int .i64 k, .int .i64 k, .bool false, u32, u33, u34, u35, u36, u37, u38, u39, u40, u41, u42, u43, u44, u45, u46, u47, u48, u49, u50, u51, u52, u53, u54, u55, u56, u57, u58, u59, u60, .agg #[.int .i64 v.k, .int .i64 v.n, .int .u64 v.f, .string v.s, .slice ad v.l.length cap, .slice bd v.e.length dap], .func (.func 55) #[] #[.pointer (some ⟨wr.heap.size, 0, none⟩)], x.1.val, undef, undef, undef, undef, undef, undef, undef, undef], defers := [] })
          (fun x a' _ X Y row hs hg hr => by
            obtain ⟨Bx, e2, e3⟩ := hs
            exact ⟨Bx, (hg.block Bx (Array.getElem?_eq_some_iff.1 e2).1 (fun e => by obtain ⟨-, o, ho, hc⟩ := hr Bx e.symm; rw [e2] at ho; cases ho; cases hc)).trans e2, e3⟩)
          ?assign ?body ?done ?stop
        case assign =>
          rintro l pre x W K ⟨hp, hce1, hke1⟩ hK
          simp only [Loc.val]
          gi_wp2
          exact hK _ _ ((KeepsOthers.alloc _ _).from _) (KeM.alloc _ _ _ _) ⟨hp, hce1.below ((Below.refl _ W).alloc (Nat.le_refl _) _), hke1.trans (KeM.alloc _ _ _ _)⟩ ⟨W.heap.size, heap_alloc_new W _, rfl⟩
        case body =>
          rintro l pre x a' W hl ⟨rr, hrr⟩ ⟨⟨hp0, hp1⟩, hce1, hke1⟩ ⟨Bx, hbx1, rfl⟩ hlt1
          obtain ⟨ca, cp, cr, cm, fm, fr, lm, lr⟩ := hce1.cells
          have hb1 : CellsAt W Bx 0 x.1 := CellsAt.box hbx1
          obtain ⟨c0, c1, c2, c3, c4, c5⟩ := hb1
          have hvx : VAt W (Bw W.heap.size M) x.1 := x.2.through hke1.size (fun b hb hl => hke1.block b hb hl) (fun b hb hl => ⟨by have := hke1.size; have := hb.1; omega, hb.2⟩)
          have hih := IH.out x.1 (chkAll f (vsOf pre) m1).2 M W hce1.m hp1 (HT.out.but HMB.out hce1.g) hvx
          simp only [Loc.val] at hih
          have HIH := Lib.hid hih
          have HCE1 := Lib.hid hce1
          have HPM : Hid ((chkAll f (vsOf pre) m1).2 ≤ 2000) := Lib.hid hp1
          have HSN : Hid (chkAll f (vsOf (pre ++ [x])) m1 = f x.1.v (chkAll f (vsOf pre) m1).2) := Lib.hid (by rw [vsOf_snoc]; exact chkAll_snoc f _ _ _ hp0)
          have HKE1 := Lib.hid hke1
          obtain ⟨r1, hr1⟩ : ∃ r1, f x.1.v (chkAll f (vsOf pre) m1).2 = r1 := ⟨_, rfl⟩
          rw [hr1] at HIH HSN
          have hle := HF.out x.1.v _ hp1
          rw [hr1] at hle
          have HLE := Lib.hid hle
          clear hih hvx hp0 hp1 hke1 hce1 hr1 hle hrr hbx1
          gi_wp2
          refine ⟨trivial, ?_⟩
          (with_reducible refine (CallsIn.inRound l (callsIn_wide.2 HIH.out)).mono ?_)
          rintro e w12 ⟨rfl, hm12, hg12⟩
          have hce12 := HCE1.out.turn hg12 hm12
          have HK12 := Lib.hid (KeepsFrom.of_grownBy (B := W0.heap.size) hg12 (fun k e => by cases e; omega))
          have HKM12 := Lib.hid (HKE1.out.trans (KeM.grow hg12 (fun k e hb => by cases e; exact hb.2 rfl)))
          have HKM13 := Lib.hid (KeM.grow (n₀ := W0.heap.size) hg12 (fun k e hb => by cases e; exact hb.2 rfl))
          have HCE12 := Lib.hid hce12
          clear ca cp cr cm fm fr lm lr c0 c1 c2 c3 c4 c5 hm12 hg12 hce12
          obtain ⟨ca, cp, cr, cm, fm, fr, lm, lr⟩ := HCE12.out.cells
          by_cases hz : r1.1 = 0
          · have t6 : (((r1.1 : Nat) : Int) != 0) = false := by rw [hz]; rfl
            have HZ := Lib.hid hz
            clear hz
            gi_wp2
            exact ⟨HK12.out, HKM13.out, ⟨by rw [HSN.out]; exact HZ.out, by rw [HSN.out]; exact HLE.out.2 HZ.out⟩, by rw [HSN.out]; exact HCE12.out, HKM12.out⟩
          · have t6 : (((r1.1 : Nat) : Int) != 0) = true := by simp; omega
            gi_wp2
            refine ⟨HK12.out.trans (KeepsFrom.of_grownBy (grownBy_setCell' w12 (w.heap.size + 3) _) (fun k e => by cases e; omega)), ⟨rfl, by rw [HSN.out]; exact hz⟩, by rw [HSN.out]; exact HCE12.out.res _⟩
        case done =>
          rintro D ys W hD rfl ⟨⟨hp0, hp1⟩, hce1, hke1⟩ hK
          have hrf : r = chkAll f (vsOf (ls ++ es)) m1 := by rw [hmap]; exact HRR.out
          have HRF := Lib.hid hrf
          have hce2 := (hce1.res 0).own (grownBy_putObj' _ D (.deferred none)) (fun k e => by cases e; exact ⟨by omega, _, (KeepsOthers.setCell _ _ _).same D _ hK rfl, rfl⟩)
          have HCE2 := Lib.hid hce2
          have hK2 := (KeepsOthers.setCell W ⟨w.heap.size + 3, 0, none⟩ (.int .i64 0)).same D _ hK rfl
          have HK2 := Lib.hid hK2
          obtain ⟨ca, cp, cr, cm, fm, fr, lm, lr⟩ := hce1.cells
          have HP0 := Lib.hid hp0
          clear hrf hce2 hK hK2 hke1 hp0 hp1 hce1
          go_wp2_with fail
          refine ⟨by simp, .inl ⟨_, _, rfl, run_takeDeferred HK2.out, ?_⟩⟩
          refine ⟨.int .i64 0, by simp [results, Tryz.results27, go_sem, HCE2.out.cells.2.2.1], ?_, ?_, ?_⟩
          · rw [HRF.out, HP0.out]; rfl
          · rw [HRF.out]; exact HCE2.out.m
          · exact HCE2.out.g
        case stop =>
          rintro D c pre W hD hSp ⟨⟨rfl, hne0⟩, hce1⟩ hK
          have hrf : r = chkAll f (vsOf pre) m1 := by
            obtain ⟨post, hpost⟩ := hSp
            have h2 : chkAll f (vsOf (ls ++ es)) m1 = chkAll f (vsOf pre) m1 := by
              rw [← hpost, show vsOf (pre ++ post) = vsOf pre ++ vsOf post from by simp [vsOf]]
              exact chkAll_stop f _ _ _ hne0
            rw [← h2, hmap]; exact HRR.out
          have HRF := Lib.hid hrf
          have hce2 := hce1.own (grownBy_putObj' _ D (.deferred none)) (fun k e => by cases e; exact ⟨by omega, _, hK, rfl⟩)
          have HCE2 := Lib.hid hce2
          have HK2 := Lib.hid hK
          clear hrf hce2 hK hne0 hce1 hSp
          refine wpIn_wide.2 ?_
          go_wp2_with fail
          refine ⟨by simp, .inl ⟨_, _, rfl, run_takeDeferred HK2.out, ?_⟩⟩
          refine ⟨.int .i64 ((chkAll f (vsOf pre) m1).1 : Nat), by simp [results, Tryz.results27, go_sem, HCE2.out.cells.2.2.1], ?_, ?_, ?_⟩
          · rw [HRF.out]
          · rw [HRF.out]; exact HCE2.out.m
          · exact HCE2.out.g
  · have t2 : ((o : Int) != 0) = true := by simp; omega
    have hrr : r = (o, m1) := by rw [← HR.out]; unfold chkM; rw [HO.out, if_pos ho0]
    subst hrr
    clear c0 c1 c2 c3 c4 c5 ho0
    go_wp2_with fail
    exact ⟨_, by simp [results, Tryz.results27, go_sem, (HE6.out.res o).cells.2.2.1], rfl, (HE6.out.res o).m, (HE6.out.res o).g⟩
end Go.Proofs.YtldhmfkojaekfaaGreatDoor
namespace Go.Proofs.YtldhmfkojaekfaaGreatDoor
open Go.RowKit Go.Shelf Gx
set_option maxRecDepth 100000

theorem check_any : ∀ (d : Nat) (q : Loc) (m M : Nat) (w : World), d ≤ 20 → Boxed w M 3 (.int .i64 m) → m ≤ 2000 → Tabs w → VAt w (Bw w.heap.size M) q →
    Calls Tryz.prog 27 #[q.val, .int .i64 (20 - (d : Int)), .pointer (some ⟨M, 0, none⟩)] w (ChkPost (chk d q.v m) M w)
  | 0, q, m, M, w, _, hM, hm, hT, hv => by
    by_cases h : 2000 < m + 1
    · have := check_zero q 20 m (m + 1) M w hM hm rfl 2 (.inl ⟨h, rfl⟩)
      rw [show chk 0 q.v m = (2, m + 1) by simp only [chk]; rw [if_pos h]]
      exact this
    · have := check_zero q 20 m (m + 1) M w hM hm rfl 5 (.inr ⟨by omega, rfl, rfl⟩)
      rw [show chk 0 q.v m = (5, m + 1) by simp only [chk]; rw [if_neg h]]
      exact this
  | d + 1, q, m, M, w, hd, hM, hm, hT, hv => by
    by_cases h : 2000 < m + 1
    · have := check_zero q (20 - ((d + 1 : Nat) : Int)) m (m + 1) M w hM hm rfl 2 (.inl ⟨h, rfl⟩)
      rw [show chk (d + 1) q.v m = (2, m + 1) by simp only [chk]; rw [if_pos h]]
      exact this
    · refine check_more q (20 - ((d + 1 : Nat) : Int)) m (m + 1) M w hM rfl (by omega) (by omega) (by omega) hT hv (chk d) (chk_le d) (fun p m' M' w' h1 h2 h3 h4 => ?_) _ ?_
      · have := check_any d p m' M' w' (by omega) h1 h2 h3 h4
        rwa [show (20 - ((d + 1 : Nat) : Int)) + 1 = 20 - (d : Int) by omega]
      · simp only [chk]; rw [if_neg h]; rfl


def CheckPost (r : Nat) (w : World) (e : Ending) (w' : World) : Prop := e = .returned (.int .i64 r) ∧ Below w.heap.size w w'
set_option maxHeartbeats 1000000 in
theorem Check_any (q : Loc) (w : World) (hT : Tabs w) (hv : VAt w (fun _ => True) q) : Calls Tryz.prog 17 #[q.val] w (CheckPost (chkV q.v) w) := by
  have hb0 : Below w.heap.size w (w.alloc (.cells #[.int .i64 q.v.k, .int .i64 q.v.n, .int .u64 q.v.f, .string q.v.s, .slice q.ad q.v.l.length q.cap, .slice q.bd q.v.e.length q.dap] 26)) := (Below.refl w.heap.size w).alloc (Nat.le_refl _) _
  have hsz : (w.alloc (.cells #[.int .i64 q.v.k, .int .i64 q.v.n, .int .u64 q.v.f, .string q.v.s, .slice q.ad q.v.l.length q.cap, .slice q.bd q.v.e.length q.dap] 26)).heap.size = w.heap.size + 1 := by simp
  have hc := CellsAt.box (q := q) (heap_alloc_new w (.cells #[.int .i64 q.v.k, .int .i64 q.v.n, .int .u64 q.v.f, .string q.v.s, .slice q.ad q.v.l.length q.cap, .slice q.bd q.v.e.length q.dap] 26))
  unfold Loc.val
  have HT := Lib.hid hT
  have HV := Lib.hid hv
  clear hT hv
  go_enter Tryz.func17, Tryz.ntmps17
  go_upto_region 1 with fail
  generalize hw1 : World.alloc w _ = w1 at hb0 hsz hc ⊢
  clear hw1
  have hb1 : Below w.heap.size w (w1.alloc (.cells #[.int .i64 0] 3)) := hb0.alloc hb0.size _
  have hc1 : CellsAt (w1.alloc (.cells #[.int .i64 0] 3)) w.heap.size 0 q := hc.through (Below.heap_alloc w1 _ _ (by omega))
  have hbx : Boxed (w1.alloc (.cells #[.int .i64 0] 3)) w1.heap.size 3 (.int .i64 ((0 : Nat) : Int)) := Boxed.new w1 _ _
  rw [hsz] at hbx
  go_upto_region 2 with fail
  generalize hw2 : World.alloc w1 _ = w2 at hb1 hc1 hbx ⊢
  obtain ⟨c0, c1, c2, c3, c4, c5⟩ := hc1
  have HB1 := Lib.hid hb1
  have HBX := Lib.hid hbx
  clear hw2 hb0 hc hb1 hbx
  go_wp2_with fail
  have hck := check_any 20 q 0 (w.heap.size + 1) w2 (Nat.le_refl _) HBX.out (by decide) (HT.out.keep HB1.out) ((HV.out.through HB1.out.size (fun b _ hl => HB1.out.block b hl) (fun b _ hl => ⟨Nat.lt_of_lt_of_le hl HB1.out.size, by omega⟩)))
  simp only [Loc.val] at hck
  rw [show (20 - ((20 : Nat) : Int)) = 0 from rfl] at hck
  (with_reducible refine hck.mono ?_)
  clear hck
  rintro e w3 ⟨rfl, -, hg⟩
  go_wp2_with fail
  try go_ret
  exact ⟨rfl, HB1.out.trans ((Below.refl _ w2).grown hg HB1.out.size (fun k e => by cases e; omega))⟩
end Go.Proofs.YtldhmfkojaekfaaGreatDoor
namespace Go.Proofs.YtldhmfkojaekfaaGreatDoor
open Go.RowKit Gx
set_option maxRecDepth 100000

def ShownPost (many : Bool) (v : V) (w : World) (e : Ending) (w' : World) : Prop :=
  ((chkV v ≠ 0 ∧ e = .returned (.tuple #[.string ⟨#[]⟩, .int .i64 (chkV v)])) ∨ (chkV v = 0 ∧ Tx 20 v ∧ e = .returned (.tuple #[.string ⟨(shwT many v).toArray⟩, .int .i64 0]))) ∧ Below w.heap.size w w'
theorem prn_new (w : World) (many : Bool) : Prn w.heap.size many [] (w.alloc (.cells #[.pointer none, .slice none 0 0, .bool many] 76)) :=
  ⟨.pointer none, .slice none 0 0, .inl rfl, heap_alloc_new w _, World.ownsRow_nil _ _ _ _⟩
set_option maxHeartbeats 8000000 in
theorem shown_any (many : Bool) (q : Loc) (w : World) (hT : STabs w) (hq : VAt w (fun _ => True) q) : Calls Tryz.prog 22 #[q.val, .bool many] w (ShownPost many q.v w) := by
  obtain ⟨wb, hwb⟩ : ∃ wb, wb = w.alloc (.cells #[.int .i64 q.v.k, .int .i64 q.v.n, .int .u64 q.v.f, .string q.v.s, .slice q.ad q.v.l.length q.cap, .slice q.bd q.v.e.length q.dap] 26) := ⟨_, rfl⟩
  have hb0 : Below w.heap.size w wb := by rw [hwb]; exact (Below.refl w.heap.size w).alloc (Nat.le_refl _) _
  have hc := CellsAt.box (q := q) (heap_alloc_new w (.cells #[.int .i64 q.v.k, .int .i64 q.v.n, .int .u64 q.v.f, .string q.v.s, .slice q.ad q.v.l.length q.cap, .slice q.bd q.v.e.length q.dap] 26))
  have hszb : wb.heap.size = w.heap.size + 1 := by rw [hwb]; simp
  rw [← hwb] at hc
  have hqb := hq.keep hb0
  have hTb := hT.keep hb0
  have hchk := Check_any q wb hTb.1.u hqb
  have hwf := hq.wfAll
  have HQ := Lib.hid hqb
  have HT := Lib.hid hTb
  have HB0 := Lib.hid hb0
  have HWF := Lib.hid hwf
  have HWB := Lib.hid hwb
  unfold Loc.val at hchk ⊢
  unfold CheckPost at hchk
  have HCHK := Lib.hid hchk
  have HCC := Lib.hid hc
  obtain ⟨a0, a1, a2, a3, a4, a5⟩ := hc
  have HSZ := Lib.hid hszb
  clear hqb hTb hchk hwf hb0 hq hT hwb hszb
  obtain ⟨R, hR⟩ : ∃ R, R = chkV q.v := ⟨_, rfl⟩
  rw [← hR] at HCHK
  have HRR := Lib.hid hR
  clear hR
  go_enter Tryz.func22, Tryz.ntmps22
  go_upto_region 1 with fail
  rw [← HWB.out]
  clear HWB
  go_wp2_with fail
  (with_reducible refine HCHK.out.mono ?_)
  rintro e w1 ⟨rfl, hb1⟩
  have HB1 := Lib.hid hb1
  have HB01 := Lib.hid (HB0.out.trans (hb1.mono HB0.out.size))
  clear hb1 HCHK a0 a1 a2 a3 a4 a5
  by_cases h0 : R = 0
  · subst h0
    have hg0 : chkV q.v = 0 := HRR.out.symm
    have HGD := Lib.hid (good_gd hg0)
    have HG0 := Lib.hid hg0
    have HLE := Lib.hid (shwT_le (many := many) hg0 HWF.out)
    obtain ⟨b, hb⟩ : ∃ b, b = w1.heap.size := ⟨_, rfl⟩
    obtain ⟨w2, hw2⟩ : ∃ w2, w2 = w1.alloc (.cells #[.pointer none, .slice none 0 0, .bool many] 76) := ⟨_, rfl⟩
    have hp2 := prn_new w1 many
    have hb2 : Below w1.heap.size w1 w2 := by rw [hw2]; exact (Below.refl _ w1).alloc (Nat.le_refl _) _
    rw [← hw2, ← hb] at hp2
    have hq1 := HQ.out.keep HB1.out
    have hq2 : VAt w2 (fun k => k < b) q := (hq1.weak (C := fun k => k < b) (fun k _ hk => by rw [hb]; exact hk)).keep hb2
    have hc2 : CellsAt w2 w.heap.size 0 q := HCC.out.through ((hb2.block _ (by have := HB1.out.size; have := HSZ.out; omega)).trans (HB1.out.block _ (by have := HSZ.out; omega)))
    have hT1 := HT.out.keep HB1.out
    have hval := value_any many b 20 0 (by omega) q w2 [] hp2 hq2 (good_gd hg0) (by have := HLE.out; simp only [List.length_nil]; omega) w1 hb.symm hT1 (by rw [hb]; exact hb2)
    unfold Loc.val at hval
    rw [List.nil_append, show ((0 : Nat) : Int) = 0 from rfl] at hval
    have HV := Lib.hid hval
    have HW2 := Lib.hid hw2
    have HB2 := Lib.hid (HB01.out.trans (hb2.mono (by have := HB1.out.size; have := HSZ.out; omega)))
    have hbz : w.heap.size ≤ b := by have := HB1.out.size; have := HSZ.out; omega
    obtain ⟨d0, d1, d2, d3, d4, d5⟩ := hc2
    clear hval hw2 hp2 hb2 hq1 hq2 hT1 hg0 HCC HQ HT HB0 HB1 HSZ HRR HWF HB01
    cases many with
    | true =>
      go_upto_region 5 with fail
      rw [← HW2.out, ← hb]
      clear HW2 hb
      go_wp2_with fail
      (with_reducible refine HV.out.mono ?_)
      rintro e w3 ⟨⟨⟨v, rfl⟩, h3, hk3⟩, ht3⟩
      have HB3 := Lib.hid (HB2.out.trans (hk3.below.mono hbz))
      have hle := HLE.out
      have HWR : Hid (Calls Tryz.prog 33 #[.pointer (some ⟨b, 0, none⟩), .int .u8 10] w3 (PrnPost .nilIface b true (shwD leafT keyT true 20 0 q.v ++ [10]) w3)) := Lib.hid (writeByteP b true _ 10 w3 h3 (by omega))
      have HTX := Lib.hid ht3
      clear h3 hk3 ht3 HV HB2 hle d0 d1 d2 d3 d4 d5
      go_wp2_with fail
      (with_reducible refine HWR.out.mono ?_)
      rintro e w4 ⟨rfl, h4, hb4, ho4, hz4⟩
      have HB4 := Lib.hid (HB3.out.trans (hb4.mono hbz))
      have HBT := Lib.hid (builtP b true _ w4 h4 (by simp))
      clear h4 hb4 ho4 hz4 HWR HB3
      go_wp2_with fail
      (with_reducible refine HBT.out.mono ?_)
      rintro e w5 ⟨rfl, hb5⟩
      have HR : Hid (ShownPost true q.v w (.returned (.tuple #[.string ⟨(shwD leafT keyT true 20 0 q.v ++ [10]).toArray⟩, .int .i64 0])) w5) := Lib.hid ⟨.inr ⟨HG0.out, HTX.out, by unfold shwT; rw [if_pos rfl]⟩, HB4.out.trans (hb5.mono hbz)⟩
      clear hb5 HBT HB4 HTX HG0 HLE HGD
      go_wp2_with fail
      try go_ret2
      exact HR.out
    | false =>
      go_upto_region 5 with fail
      rw [← HW2.out, ← hb]
      clear HW2 hb
      go_wp2_with fail
      (with_reducible refine HV.out.mono ?_)
      rintro e w3 ⟨⟨⟨v, rfl⟩, h3, hk3⟩, ht3⟩
      have HB3 := Lib.hid (HB2.out.trans (hk3.below.mono hbz))
      have HTX := Lib.hid ht3
      have HBT := Lib.hid (builtP b false _ w3 h3 (shw_ne (d := 19) ⟨HGD.out, ht3⟩))
      clear h3 hk3 ht3 HV HB2 d0 d1 d2 d3 d4 d5
      go_wp2_with fail
      (with_reducible refine HBT.out.mono ?_)
      rintro e w5 ⟨rfl, hb5⟩
      have HR : Hid (ShownPost false q.v w (.returned (.tuple #[.string ⟨(shwD leafT keyT false 20 0 q.v).toArray⟩, .int .i64 0])) w5) := Lib.hid ⟨.inr ⟨HG0.out, HTX.out, by unfold shwT; rw [if_neg (by decide), List.append_nil]⟩, HB3.out.trans (hb5.mono hbz)⟩
      clear hb5 HBT HB3 HTX HG0 HLE HGD
      go_wp2_with fail
      try go_ret2
      exact HR.out
  · have HR : Hid (ShownPost many q.v w (.returned (.tuple #[.string ⟨#[]⟩, .int .i64 R])) w1) := Lib.hid ⟨.inl ⟨by rw [← HRR.out]; exact h0, by rw [← HRR.out]⟩, HB01.out⟩
    have h0i : ¬ (R : Int) = 0 := by omega
    have t0 : ((R : Int) != 0) = true := by rw [bne_iff_ne]; exact h0i
    clear HRR HB01 HB1 HB0 HT HQ HWF HCC HSZ
    go_wp2_with fail
    try go_ret2
    exact HR.out
end Go.Proofs.YtldhmfkojaekfaaGreatDoor
namespace Go.Proofs.YtldhmfkojaekfaaGreatDoor
open Go.RowKit Gx

theorem xor_top (b : Nat) (h : b < 18446744073709551616) : b ^^^ 9223372036854775808 = if b < 9223372036854775808 then b + 9223372036854775808 else b - 9223372036854775808 := by
  have e1 := Nat.xor_mod_two_pow (a := b) (b := 9223372036854775808) (n := 63)
  have e2 := Nat.xor_div_two_pow (a := b) (b := 9223372036854775808) (n := 63)
  rw [show (2 : Nat) ^ 63 = 9223372036854775808 from rfl] at e1 e2
  rw [show 9223372036854775808 % 9223372036854775808 = 0 from rfl, Nat.xor_zero] at e1
  rw [show 9223372036854775808 / 9223372036854775808 = 1 from rfl] at e2
  generalize b ^^^ 9223372036854775808 = c at e1 e2 ⊢
  have h2 : b / 9223372036854775808 = 0 ∨ b / 9223372036854775808 = 1 := by omega
  rcases h2 with h2 | h2
  · rw [h2] at e2
    rw [show (0 ^^^ 1 : Nat) = 1 from rfl] at e2
    rw [if_pos (by omega)]; omega
  · rw [h2] at e2
    rw [show (1 ^^^ 1 : Nat) = 0 from rfl] at e2
    rw [if_neg (by omega)]; omega
theorem xor_all (b : Nat) (h : b < 18446744073709551616) : 18446744073709551615 ^^^ b = 18446744073709551615 - b := by
  have h1 := congrArg BitVec.toNat (BitVec.allOnes_xor (x := BitVec.ofNat 64 b))
  rw [BitVec.toNat_xor, BitVec.toNat_not, BitVec.toNat_allOnes, BitVec.toNat_ofNat, Nat.mod_eq_of_lt (show b < 2 ^ 64 from h)] at h1
  exact h1
theorem ixor_top (f : Int) (h0 : 0 ≤ f) (h1 : f ≤ 18446744073709551615) : bits .xor .u64 f 9223372036854775808 = if f < 9223372036854775808 then f + 9223372036854775808 else f - 9223372036854775808 := by
  obtain ⟨b, rfl⟩ : ∃ b : Nat, f = (b : Int) := ⟨f.toNat, by omega⟩
  have := u64_xor_nat b 9223372036854775808 (by omega) (by omega)
  rw [show ((9223372036854775808 : Nat) : Int) = 9223372036854775808 from rfl] at this
  rw [this, xor_top b (by omega)]
  by_cases h : b < 9223372036854775808
  · rw [if_pos h, if_pos (by omega)]; omega
  · rw [if_neg h, if_neg (by omega)]; omega
theorem ixor_all (f : Int) (h0 : 0 ≤ f) (h1 : f ≤ 18446744073709551615) : bits .xor .u64 IntKind.u64.max f = 18446744073709551615 - f := by
  obtain ⟨b, rfl⟩ : ∃ b : Nat, f = (b : Int) := ⟨f.toNat, by omega⟩
  have := u64_xor_nat 18446744073709551615 b (by omega) (by omega)
  rw [show ((18446744073709551615 : Nat) : Int) = IntKind.u64.max from rfl] at this
  rw [this, xor_all b (by omega)]
  show _ = (18446744073709551615 : Int) - _
  omega
end Go.Proofs.YtldhmfkojaekfaaGreatDoor
